/- CODEC: the walk of CodecPuts. -/
import Derived.Test.YtfcjmpgbohgoeaaCp4
import Derived.Test.YtfcjmpgbohgoeaaCo14
namespace Go.Proofs.Ytfcjmpgbohgoeaa
open Go.RowKit Go.Lib Go.Tk Go.Shelf Go.Vc Go.Sx
set_option linter.unusedVariables false
set_option linter.unusedSimpArgs false
def sameO (r : RecV) (al at1 : Option Addr) (cl ct : Nat) (D : Chunk) : Heap := [((0, 0), .fam fun _ _ => D), ((0, 1), legRow r.cmd.legs.length (cellsL legE r.cmd.legs)), ((0, 2), taxRow r.cmd.taxes.length (cellsL taxE r.cmd.taxes)),
       ((1, 0), .box none (recS r (.raw 0 1) (.raw 0 2))), ((1, 1), .box none (recS r (.val (.slice al r.cmd.legs.length cl)) (.val (.slice at1 r.cmd.taxes.length ct)))), ((1, 2), .box none (saleS r.cmd (.raw 0 1) (.raw 0 2))), ((1, 3), .box none (saleS r.cmd (.val (.slice al r.cmd.legs.length cl)) (.val (.slice at1 r.cmd.taxes.length ct))))]
theorem same_open (r : RecV) (al at1 : Option Addr) (cl ct : Nat) (D : Chunk) (rl : Rd D al (cellsL legE r.cmd.legs)) (rt : Rd D at1 (cellsL taxE r.cmd.taxes)) (hn : r.cmd.legs.length ≤ 1000000 ∧ r.cmd.taxes.length ≤ 1000000) :
    CallOK Try.prog RS [.agg (recS r (.raw 0 1) (.raw 0 2)), .agg (recS r (.val (.slice al r.cmd.legs.length cl)) (.val (.slice at1 r.cmd.taxes.length ct)))] [((0, 0), .fam fun _ _ => D), ((0, 1), legRow r.cmd.legs.length (cellsL legE r.cmd.legs)), ((0, 2), taxRow r.cmd.taxes.length (cellsL taxE r.cmd.taxes))] [] (.val (.bool true)) [] := by
  have hL := fun x : LegV => ne_agg (P := Try.prog) (o := opOf Try.prog RS 7 10) (x := .tmp 42) (y := .tmp 47) (t := 36) (t' := 36) (cs := legS x) (ds := legS x) (b := true) (by kernel_rfl) (by kernel_rfl) (fun _ => rfl) (fun _ => rfl) (fun w => (eq_leg x x w).trans (by rw [(legB_iff x x).2 rfl]))
  have hT := fun x : TaxV => ne_agg (P := Try.prog) (o := opOf Try.prog RS 12 10) (x := .tmp 60) (y := .tmp 65) (t := 58) (t' := 58) (cs := taxS x) (ds := taxS x) (b := true) (by kernel_rfl) (by kernel_rfl) (fun _ => rfl) (fun _ => rfl) (fun w => (eq_tax x x w).trans (by rw [(taxB_iff x x).2 rfl]))
  have hM := eq_agg (P := Try.prog) (o := opOf Try.prog RS 14 24) (x := .tmp 88) (y := .tmp 90) (t := 42) (t' := 42) (cs := msgS r.msg) (ds := msgS r.msg) (b := true) (by kernel_rfl) (by kernel_rfl) (fun _ => rfl) (fun _ => rfl) (fun w => (eq_msg r.msg r.msg w).trans (by rw [(msgB_iff _ _).2 rfl]))
  have hK := eq_agg (P := Try.prog) (o := opOf Try.prog RS 14 42) (x := .tmp 105) (y := .tmp 108) (t := 24) (t' := 24) (cs := tickS r.cmd.tick) (ds := tickS r.cmd.tick) (b := true) (by kernel_rfl) (by kernel_rfl) (fun _ => rfl) (fun _ => rfl) (fun w => (eq_tick r.cmd.tick r.cmd.tick w).trans (by rw [(tickB_iff _ _).2 rfl]))
  have dc := fun (x : Int) => decide_eq_true (p := x = x) rfl
  refine callOK_intro (by kernel_rfl) fun eb R => ?_
  refine go_loop (X := { i : Nat // i ≤ r.cmd.legs.length }) 0 [] (fun x => ([(2, .ptr 1 0 0), (3, .ptr 1 1 0), (5, .ptr 1 2 0), (6, .ptr 1 3 0), (7, .val (.int .i64 (x.1 : Int)))], sameO r al at1 cl ct D))
    (fun x => r.cmd.legs.length - x.1) ⟨0, Nat.zero_le _⟩ calNone false 200
    [hB 2 6 (!decide ((r.cmd.legs.length : Int) = r.cmd.legs.length)) false (by simp), hB 2 14 (!decide ((r.cmd.taxes.length : Int) = r.cmd.taxes.length)) false (by simp)] calNone_ok (by kernel_rfl) ?_
  rintro ⟨i, hi⟩ J hJ
  by_cases h : i < r.cmd.legs.length
  · have hx : r.cmd.legs[i]? = some r.cmd.legs[i] := List.getElem?_eq_getElem h
    have hl := load_elt (P := Try.prog) (o := opOf Try.prog RS 7 4) (x := .tmp 41) (t := 36) (cs := legS r.cmd.legs[i]) (n := r.cmd.legs.length) (p := 0) (j := 0) (b := i * 3) (E := 36) (size := 3) (u := .agg (legS r.cmd.legs[i])) (by kernel_rfl) (by kernel_rfl) (legS_at hx)
    have ha' := idx_open (P := Try.prog) (o := opOf Try.prog RS 7 8) (x := .tmp 44) (y := .tmp 45) (t := 25) (e := 36) (size := 3) (ie := (Try.prog.info? 36).get (by kernel_rfl)) (k := .i64) (cap := cl) (by kernel_rfl) Try.underlying25 (Option.some_get _).symm (by kernel_rfl) (by decide) (cellsL_len (enc := legE) (size := 3) (fun _ => rfl) r.cmd.legs) rl h
    have hl' := load_open (P := Try.prog) (o := opOf Try.prog RS 7 9) (x := .tmp 46) (t := 36) (k := i * 3) (j := 0) (cs := legS r.cmd.legs[i]) (u := .agg (legS r.cmd.legs[i])) (by kernel_rfl) (by kernel_rfl) rl (legS_at hx) (by rw [cellsL_len (enc := legE) (size := 3) (fun _ => rfl)]; omega)
    exact leaf_next calNone false 200 [hB 5 4 (decide ((i : Int) < (r.cmd.legs.length : Int))) true (decide_eq_true (by omega)), .opt 7 3 (.at_ 0 i r.cmd.legs.length (i : Int) ⟨rfl, h⟩), hO 7 4 hl, hO 7 8 ha', hO 7 9 hl', hO 7 10 (hL r.cmd.legs[i]), hI 6 1 .i64 (IntKind.i64.wrap ((i : Int) + 1)) ((i + 1 : Nat) : Int) (by rw [wr_i64 (by omega)]; omega)] calNone_ok (hJ ⟨i + 1, h⟩ (by show _ - (i + 1) < _ - i; omega)) (by kernel_rfl)
  have he : i = r.cmd.legs.length := by omega
  subst he
  refine go_loop (X := { i : Nat // i ≤ r.cmd.taxes.length }) 1 [] (fun x => ([(2, .ptr 1 0 0), (3, .ptr 1 1 0), (5, .ptr 1 2 0), (6, .ptr 1 3 0), (8, .val (.int .i64 (x.1 : Int)))], sameO r al at1 cl ct D))
    (fun x => r.cmd.taxes.length - x.1) ⟨0, Nat.zero_le _⟩ calNone false 200
    [hB 5 4 (decide ((r.cmd.legs.length : Int) < (r.cmd.legs.length : Int))) false (decide_eq_false (by omega))] calNone_ok (by kernel_rfl) ?_
  rintro ⟨i, hi⟩ J hJ
  by_cases h : i < r.cmd.taxes.length
  · have hx : r.cmd.taxes[i]? = some r.cmd.taxes[i] := List.getElem?_eq_getElem h
    have hl := load_elt (P := Try.prog) (o := opOf Try.prog RS 12 4) (x := .tmp 59) (t := 58) (cs := taxS r.cmd.taxes[i]) (n := r.cmd.taxes.length) (p := 0) (j := 0) (b := i * 2) (E := 58) (size := 2) (u := .agg (taxS r.cmd.taxes[i])) (by kernel_rfl) (by kernel_rfl) (taxS_at hx)
    have ha' := idx_open (P := Try.prog) (o := opOf Try.prog RS 12 8) (x := .tmp 62) (y := .tmp 63) (t := 26) (e := 58) (size := 2) (ie := (Try.prog.info? 58).get (by kernel_rfl)) (k := .i64) (cap := ct) (by kernel_rfl) Try.underlying26 (Option.some_get _).symm (by kernel_rfl) (by decide) (cellsL_len (enc := taxE) (size := 2) (fun _ => rfl) r.cmd.taxes) rt h
    have hl' := load_open (P := Try.prog) (o := opOf Try.prog RS 12 9) (x := .tmp 64) (t := 58) (k := i * 2) (j := 0) (cs := taxS r.cmd.taxes[i]) (u := .agg (taxS r.cmd.taxes[i])) (by kernel_rfl) (by kernel_rfl) rt (taxS_at hx) (by rw [cellsL_len (enc := taxE) (size := 2) (fun _ => rfl)]; omega)
    exact leaf_next calNone false 200 [hB 10 4 (decide ((i : Int) < (r.cmd.taxes.length : Int))) true (decide_eq_true (by omega)), .opt 12 3 (.at_ 0 i r.cmd.taxes.length (i : Int) ⟨rfl, h⟩), hO 12 4 hl, hO 12 8 ha', hO 12 9 hl', hO 12 10 (hT r.cmd.taxes[i]), hI 11 1 .i64 (IntKind.i64.wrap ((i : Int) + 1)) ((i + 1 : Nat) : Int) (by rw [wr_i64 (by omega)]; omega)] calNone_ok (hJ ⟨i + 1, h⟩ (by show _ - (i + 1) < _ - i; omega)) (by kernel_rfl)
  have he : i = r.cmd.taxes.length := by omega
  subst he
  exact leaf_end calNone false 200 [hB 10 4 (decide ((r.cmd.taxes.length : Int) < (r.cmd.taxes.length : Int))) false (decide_eq_false (by omega)), hB 14 4 _ true (dc r.kind), hB 14 10 _ true (dc r.frm), hB 14 17 _ true (dc r.number), hO 14 24 hM, hB 14 33 _ true (dc r.cmd.kind), hO 14 42 hK, hB 14 51 _ true (dc r.cmd.at_), hB 14 60 _ true (dc r.cmd.amount), hB 14 67 (r.cmd.name.toList == r.cmd.name.toList) true (beq_self_eq_true _), hB 14 74 _ true (dc r.cmd.fare), hB 14 81 _ true (dc r.cmd.penalty)] calNone_ok (by kernel_rfl)
theorem cells_one {α : Type} {enc : α → List Value} (h : ∀ x, ∀ v ∈ enc x, v.oneCell' = true) (l : List α) : ∀ u ∈ cellsL enc l, u.oneCell' = true := fun u hu => by
  obtain ⟨x, hx, hu⟩ := List.mem_flatten.1 hu
  obtain ⟨y, -, rfl⟩ := List.mem_map.1 hx
  exact h y u hu
def OWF : Nat := 11
theorem own_w (r : RecV) (al at1 : Option Addr) (cl ct : Nat) (D : Chunk) (rl : Rd D al (cellsL legE r.cmd.legs)) (rt : Rd D at1 (cellsL taxE r.cmd.taxes)) (hn : r.cmd.legs.length ≤ 1000000 ∧ r.cmd.taxes.length ≤ 1000000) :
    CallOK Try.prog OWF [.agg (recS r (.val (.slice al r.cmd.legs.length cl)) (.val (.slice at1 r.cmd.taxes.length ct)))] [((0, 0), .fam fun _ _ => D)] [] (.agg (recS r (.raw 1 0) (.raw 1 1))) [((1, 0), legRow r.cmd.legs.length (cellsL legE r.cmd.legs)), ((1, 1), taxRow r.cmd.taxes.length (cellsL taxE r.cmd.taxes))] := by
  have ha := app_open0 (P := Try.prog) (o := opOf Try.prog OWF 1 5) (a := al) (cap := cl) (n := r.cmd.legs.length) (xs := cellsL legE r.cmd.legs) (D := D) (size := 3) rfl rfl rfl rfl Try.underlying25 Try.underlying25 ⟨(Try.prog.info? 36).get (by kernel_rfl), .agg #[.int .u8 0, .int .u16 0, .int .u32 0], (Option.some_get _).symm, by kernel_rfl, by kernel_rfl, rfl, by decide, Nat.le_of_ble_eq_true (by kernel_rfl)⟩ (cellsL_len (enc := legE) (size := 3) (fun _ => rfl) r.cmd.legs) (cells_one legE_one _) rl (by omega)
  have hb := app_open0 (P := Try.prog) (o := opOf Try.prog OWF 2 5) (a := at1) (cap := ct) (n := r.cmd.taxes.length) (xs := cellsL taxE r.cmd.taxes) (D := D) (size := 2) rfl rfl rfl rfl Try.underlying26 Try.underlying26 ⟨(Try.prog.info? 58).get (by kernel_rfl), .agg #[.string ByteArray.empty, .int .i64 0], (Option.some_get _).symm, by kernel_rfl, by kernel_rfl, rfl, by decide, Nat.le_of_ble_eq_true (by kernel_rfl)⟩ (cellsL_len (enc := taxE) (size := 2) (fun _ => rfl) r.cmd.taxes) (cells_one taxE_one _) rt (by omega)
  refine callOK_intro (by kernel_rfl) fun eb R => ?_
  exact leaf_end calNone false 200 [hO 1 5 ha, hO 2 5 hb] calNone_ok (by kernel_rfl)
theorem rdv2 {E : TypeId} {size n c : Nat} {v : Value} {a : Option Addr} {xs : List Value} (h : v = .slice a n c) : Rd (rowC E size v n xs) a xs := by subst h; exact rd_row
/-- codec.Put by contract -/
theorem putk_ok (r : RecV) (hw : RecW r) :
    CallOK Try.prog 12 [.agg (recS r (.raw 0 0) (.raw 0 1))] [((0, 0), legRow r.cmd.legs.length (cellsL legE r.cmd.legs)), ((0, 1), taxRow r.cmd.taxes.length (cellsL taxE r.cmd.taxes))] [] (.tup [.raw 1 0, .val (.int .i64 (putE r))]) [((1, 0), u8R (cB (putB r)) (putB r).length)] := by
  intro ε R w hM
  have hM : Mem (rowC 36 3 (asSl (ε 0 0).2) r.cmd.legs.length (cellsL legE r.cmd.legs) :: rowC 58 2 (asSl (ε 0 1).2) r.cmd.taxes.length (cellsL taxE r.cmd.taxes) :: R) w := hM
  obtain ⟨a0, c0, h0, -⟩ := (hM.owns 0 rfl).row
  obtain ⟨a1, c1, h1, -⟩ := (hM.owns 1 rfl).row
  have e : (SV.dens ε [.agg (recS r (.raw 0 0) (.raw 0 1))]).toArray = #[.agg (recCells r (.slice a0 r.cmd.legs.length c0) (.slice a1 r.cmd.taxes.length c1))] := by rw [← h0, ← h1]; rfl
  rw [e]
  refine (put_at r a0 a1 c0 c1 _ w hM (fun w hm => (rdv2 h0).row hm 0 rfl) (fun w hm => (rdv2 h1).row hm 1 rfl) hw).mono ?_
  rintro e' w' ⟨v, rfl, hm⟩
  have e1 : asSl v = v := asSl_self (hm.owns 0 rfl)
  refine ⟨fun _ => (0, v), ?_, ?_⟩
  · have : (Value.tuple #[v, .int .i64 (putE r)]) = .tuple #[asSl v, .int .i64 (putE r)] := by rw [e1]
    rw [this]; rfl
  · have hm : Mem (rowC 5 1 (asSl v) (putB r).length (cB (putB r)) :: rowC 36 3 (asSl (ε 0 0).2) r.cmd.legs.length (cellsL legE r.cmd.legs) :: rowC 58 2 (asSl (ε 0 1).2) r.cmd.taxes.length (cellsL taxE r.cmd.taxes) :: R) w' := by rw [e1]; exact hm
    exact (hm.front 2 rfl).front 2 rfl
theorem great_ok (r : RecV) (al at1 : Option Addr) (cl ct : Nat) (D : Chunk) (rt : Rd D at1 (cellsL taxE r.cmd.taxes)) (hm : r.cmd.taxes.length ≤ maxLen) :
    CallOK Try.prog 10 [.agg (recS r (.val (.slice al r.cmd.legs.length cl)) (.val (.slice at1 r.cmd.taxes.length ct)))] [((0, 0), .fam fun _ _ => D)] [] (.val (.bool (greatV r))) [] := by
  intro ε R w hM
  have hM : Mem (D :: R) w := hM
  refine (great_at r al at1 cl ct _ w hM (fun w hm => rt.row hm 0 rfl) hm).mono ?_
  rintro e' w' ⟨rfl, hm⟩
  exact ⟨ε 1, rfl, by rw [eset_self]; exact hm⟩
theorem puts_ok' : CallOK Try.prog 15 [] [] [] (.val (.bool true)) [] := fun ε R w hM =>
  (puts_at R w hM).mono fun e w' ⟨h, hm⟩ => ⟨fun _ => (0, undef), h, hm⟩
def CPF : Nat := 3
theorem law_puts (r : RecV) (al at1 : Option Addr) (cl ct : Nat) (D : Chunk) (rl : Rd D al (cellsL legE r.cmd.legs)) (rt : Rd D at1 (cellsL taxE r.cmd.taxes)) (hi : RecIn r) :
    CallOK Try.prog CPF [.agg (recS r (.val (.slice al r.cmd.legs.length cl)) (.val (.slice at1 r.cmd.taxes.length ct)))] [((0, 0), .fam fun _ _ => D)] [] (.val (.bool true)) [] := by
  have hg := great_ok r al at1 cl ct D rt hi.cmd.nt
  rcases Bool.eq_false_or_eq_true (greatV r) with h | h
  · rw [h] at hg
    refine callOK_intro (by kernel_rfl) fun eb R => ?_
    exact leaf_end calNone false 200 [hC 1 1 hg] calNone_ok (by kernel_rfl)
  rw [h] at hg
  unfold greatV at h
  simp only [Bool.or_eq_false_iff, decide_eq_false_iff_not] at h
  have hn : r.cmd.legs.length ≤ 1000000 ∧ r.cmd.taxes.length ≤ 1000000 := ⟨by omega, by omega⟩
  have ho := own_w r al at1 cl ct D rl rt hn
  have hp := putk_ok r (hi.w hn.1 hn.2)
  have hq := put_w r al at1 cl ct D rl rt hi hn.2
  have hs := same_open r al at1 cl ct D rl rt hn
  have eB : ∀ l : List Int, ofBytes ((cB l).map Sx.intOf) = ofBytes l := fun l => by unfold cB; rw [List.map_map, show Sx.intOf ∘ Value.int .u8 = id from rfl, List.map_id]
  have eU : ∀ l : List Int, cB l = ((cB l).map fun v => match v with
      | .int _ x => x
      | _ => 0).map (Value.int .u8) := fun l => by unfold cB; rw [List.map_map, List.map_map]; rfl
  refine callOK_intro (by kernel_rfl) fun eb R => ?_
  exact leaf_end calNone false 200 [hC 1 1 hg, hC 3 1 ho, hC 4 1 hp, hC 5 1 hq, .opt 6 1 (.u8 (cB (putB r)) (eU _)), .opt 6 3 (.u8 (cB (putB r)) (eU _)), hB 6 4 ((ofBytes ((cB (putB r)).map Sx.intOf)).toList == (ofBytes ((cB (putB r)).map Sx.intOf)).toList) true (beq_self_eq_true _), hB 6 8 (decide (putE r = putE r)) true (decide_eq_true rfl), hC 6 13 hs, hC 6 16 puts_ok'] calNone_ok (by kernel_rfl)
theorem puts_any (r : RecV) (al at1 : Option Addr) (cl ct : Nat) (w : World) (hl : Row w al (cellsL legE r.cmd.legs)) (ht : Row w at1 (cellsL taxE r.cmd.taxes)) (hi : RecIn r) :
    Calls Try.prog CPF #[.agg (recCells r (.slice al r.cmd.legs.length cl) (.slice at1 r.cmd.taxes.length ct))] w fun e w' => e = .returned (.bool true) ∧ Below w.heap.size w w' :=
  (law_puts r al at1 cl ct (oldC w) (rd_old hl) (rd_old ht) hi (fun _ _ => (0, undef)) [] w (Mem.old w)).mono fun e w' ⟨x, h, hm⟩ => ⟨h, (show Mem (oldC w :: []) w' from hm).below 0 rfl⟩
end Go.Proofs.Ytfcjmpgbohgoeaa
