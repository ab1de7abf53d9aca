/- Cr6, Cr5. -/
import Derived.Test.YtfcjmpgbohgoeaaM24
import Derived.Test.YtfcjmpgbohgoeaaCr3
import Derived.Test.YtfcjmpgbohgoeaaCo10
import Derived.Test.YtfcjmpgbohgoeaaCr4
import Derived.Test.YtfcjmpgbohgoeaaCo14
section
namespace Go.Proofs.Ytfcjmpgbohgoeaa
open Go.RowKit Go.Lib Go.Tk Go.Shelf Go.Vc Go.Sx
set_option linter.unusedVariables false
set_option linter.unusedSimpArgs false
def RS : Nat := 14
def saleS (c : CmdV) (vl vt : SV) : List SV := [.val (.string c.name), vl, .val (.int .i64 c.fare), vt, .val (.int .i64 c.penalty)]
def legS (l : LegV) : List SV := [.val (.int .u8 l.c), .val (.int .u16 l.f), .val (.int .u32 l.x)]
def taxS (t : TaxV) : List SV := [.val (.string t.code), .val (.int .i64 t.amt)]
theorem legS_at {l : List LegV} {i : Nat} {x : LegV} (h : l[i]? = some x) (ε : Env) (j : Nat) (v : SV) (hv : (legS x)[j]? = some v) : (cellsL legE l)[i * 3 + j]? = some (v.den ε) :=
  cells_at (enc := legE) (fun _ => rfl) h (by
    have h1 : SV.dens ε (legS x) = legE x := rfl
    rw [← h1, dens_get, hv]; rfl)
theorem taxS_at {l : List TaxV} {i : Nat} {x : TaxV} (h : l[i]? = some x) (ε : Env) (j : Nat) (v : SV) (hv : (taxS x)[j]? = some v) : (cellsL taxE l)[i * 2 + j]? = some (v.den ε) :=
  cells_at (enc := taxE) (fun _ => rfl) h (by
    have h1 : SV.dens ε (taxS x) = taxE x := rfl
    rw [← h1, dens_get, hv]; rfl)
def sameH (r : RecV) : Heap := [((0, 0), legRow r.cmd.legs.length (cellsL legE r.cmd.legs)), ((0, 1), taxRow r.cmd.taxes.length (cellsL taxE r.cmd.taxes)), ((0, 2), legRow r.cmd.legs.length (cellsL legE r.cmd.legs)), ((0, 3), taxRow r.cmd.taxes.length (cellsL taxE r.cmd.taxes)),
       ((1, 0), .box none (recS r (.raw 0 0) (.raw 0 1))), ((1, 1), .box none (recS r (.raw 0 2) (.raw 0 3))), ((1, 2), .box none (saleS r.cmd (.raw 0 0) (.raw 0 1))), ((1, 3), .box none (saleS r.cmd (.raw 0 2) (.raw 0 3)))]
def tickS (t : TickV) : List SV := [.val (.int .u8 t.c), .val (.int .u64 t.r)]
theorem same_refl (r : RecV) (hn : r.cmd.legs.length ≤ 1000000 ∧ r.cmd.taxes.length ≤ 1000000) :
    CallOK Try.prog RS [.agg (recS r (.raw 0 0) (.raw 0 1)), .agg (recS r (.raw 0 2) (.raw 0 3))] [((0, 0), legRow r.cmd.legs.length (cellsL legE r.cmd.legs)), ((0, 1), taxRow r.cmd.taxes.length (cellsL taxE r.cmd.taxes)), ((0, 2), legRow r.cmd.legs.length (cellsL legE r.cmd.legs)), ((0, 3), taxRow r.cmd.taxes.length (cellsL taxE r.cmd.taxes))] [] (.val (.bool true)) [] := by
  have hL := fun x : LegV => ne_agg (P := Try.prog) (o := opOf Try.prog RS 7 10) (x := .tmp 42) (y := .tmp 47) (t := 36) (t' := 36) (cs := legS x) (ds := legS x) (b := true) (by kernel_rfl) (by kernel_rfl) (fun _ => rfl) (fun _ => rfl) (fun w => (eq_leg x x w).trans (by rw [(legB_iff x x).2 rfl]))
  have hT := fun x : TaxV => ne_agg (P := Try.prog) (o := opOf Try.prog RS 12 10) (x := .tmp 60) (y := .tmp 65) (t := 58) (t' := 58) (cs := taxS x) (ds := taxS x) (b := true) (by kernel_rfl) (by kernel_rfl) (fun _ => rfl) (fun _ => rfl) (fun w => (eq_tax x x w).trans (by rw [(taxB_iff x x).2 rfl]))
  have hM := eq_agg (P := Try.prog) (o := opOf Try.prog RS 14 24) (x := .tmp 88) (y := .tmp 90) (t := 42) (t' := 42) (cs := msgS r.msg) (ds := msgS r.msg) (b := true) (by kernel_rfl) (by kernel_rfl) (fun _ => rfl) (fun _ => rfl) (fun w => (eq_msg r.msg r.msg w).trans (by rw [(msgB_iff _ _).2 rfl]))
  have hK := eq_agg (P := Try.prog) (o := opOf Try.prog RS 14 42) (x := .tmp 105) (y := .tmp 108) (t := 24) (t' := 24) (cs := tickS r.cmd.tick) (ds := tickS r.cmd.tick) (b := true) (by kernel_rfl) (by kernel_rfl) (fun _ => rfl) (fun _ => rfl) (fun w => (eq_tick r.cmd.tick r.cmd.tick w).trans (by rw [(tickB_iff _ _).2 rfl]))
  have D := fun (x : Int) => decide_eq_true (p := x = x) rfl
  refine callOK_intro (by kernel_rfl) fun eb R => ?_
  refine go_loop (X := { i : Nat // i ≤ r.cmd.legs.length }) 0 [] (fun x => ([(2, .ptr 1 0 0), (3, .ptr 1 1 0), (5, .ptr 1 2 0), (6, .ptr 1 3 0), (7, .val (.int .i64 (x.1 : Int)))], sameH r))
    (fun x => r.cmd.legs.length - x.1) ⟨0, Nat.zero_le _⟩ calNone false 200
    [hB 2 6 (!decide ((r.cmd.legs.length : Int) = r.cmd.legs.length)) false (by simp), hB 2 14 (!decide ((r.cmd.taxes.length : Int) = r.cmd.taxes.length)) false (by simp)] calNone_ok (by kernel_rfl) ?_
  rintro ⟨i, hi⟩ J hJ
  by_cases h : i < r.cmd.legs.length
  · have hx : r.cmd.legs[i]? = some r.cmd.legs[i] := List.getElem?_eq_getElem h
    have hl := load_elt (P := Try.prog) (o := opOf Try.prog RS 7 4) (x := .tmp 41) (t := 36) (cs := legS r.cmd.legs[i]) (n := r.cmd.legs.length) (p := 0) (j := 0) (b := i * 3) (E := 36) (size := 3) (u := .agg (legS r.cmd.legs[i])) (by kernel_rfl) (by kernel_rfl) (legS_at hx)
    have hl' := load_elt (P := Try.prog) (o := opOf Try.prog RS 7 9) (x := .tmp 46) (t := 36) (cs := legS r.cmd.legs[i]) (n := r.cmd.legs.length) (p := 0) (j := 0) (b := i * 3) (E := 36) (size := 3) (u := .agg (legS r.cmd.legs[i])) (by kernel_rfl) (by kernel_rfl) (legS_at hx)
    exact leaf_next calNone false 200 [hB 5 4 (decide ((i : Int) < (r.cmd.legs.length : Int))) true (decide_eq_true (by omega)), .opt 7 3 (.at_ 0 i r.cmd.legs.length (i : Int) ⟨rfl, h⟩), hO 7 4 hl, .opt 7 8 (.at_ 0 i r.cmd.legs.length (i : Int) ⟨rfl, h⟩), hO 7 9 hl', hO 7 10 (hL r.cmd.legs[i]), hI 6 1 .i64 (IntKind.i64.wrap ((i : Int) + 1)) ((i + 1 : Nat) : Int) (by rw [wr_i64 (by omega)]; omega)] calNone_ok (hJ ⟨i + 1, h⟩ (by show _ - (i + 1) < _ - i; omega)) (by kernel_rfl)
  have he : i = r.cmd.legs.length := by omega
  subst he
  refine go_loop (X := { i : Nat // i ≤ r.cmd.taxes.length }) 1 [] (fun x => ([(2, .ptr 1 0 0), (3, .ptr 1 1 0), (5, .ptr 1 2 0), (6, .ptr 1 3 0), (8, .val (.int .i64 (x.1 : Int)))], sameH r))
    (fun x => r.cmd.taxes.length - x.1) ⟨0, Nat.zero_le _⟩ calNone false 200
    [hB 5 4 (decide ((r.cmd.legs.length : Int) < (r.cmd.legs.length : Int))) false (decide_eq_false (by omega))] calNone_ok (by kernel_rfl) ?_
  rintro ⟨i, hi⟩ J hJ
  by_cases h : i < r.cmd.taxes.length
  · have hx : r.cmd.taxes[i]? = some r.cmd.taxes[i] := List.getElem?_eq_getElem h
    have hl := load_elt (P := Try.prog) (o := opOf Try.prog RS 12 4) (x := .tmp 59) (t := 58) (cs := taxS r.cmd.taxes[i]) (n := r.cmd.taxes.length) (p := 0) (j := 0) (b := i * 2) (E := 58) (size := 2) (u := .agg (taxS r.cmd.taxes[i])) (by kernel_rfl) (by kernel_rfl) (taxS_at hx)
    have hl' := load_elt (P := Try.prog) (o := opOf Try.prog RS 12 9) (x := .tmp 64) (t := 58) (cs := taxS r.cmd.taxes[i]) (n := r.cmd.taxes.length) (p := 0) (j := 0) (b := i * 2) (E := 58) (size := 2) (u := .agg (taxS r.cmd.taxes[i])) (by kernel_rfl) (by kernel_rfl) (taxS_at hx)
    exact leaf_next calNone false 200 [hB 10 4 (decide ((i : Int) < (r.cmd.taxes.length : Int))) true (decide_eq_true (by omega)), .opt 12 3 (.at_ 0 i r.cmd.taxes.length (i : Int) ⟨rfl, h⟩), hO 12 4 hl, .opt 12 8 (.at_ 0 i r.cmd.taxes.length (i : Int) ⟨rfl, h⟩), hO 12 9 hl', hO 12 10 (hT r.cmd.taxes[i]), hI 11 1 .i64 (IntKind.i64.wrap ((i : Int) + 1)) ((i + 1 : Nat) : Int) (by rw [wr_i64 (by omega)]; omega)] calNone_ok (hJ ⟨i + 1, h⟩ (by show _ - (i + 1) < _ - i; omega)) (by kernel_rfl)
  have he : i = r.cmd.taxes.length := by omega
  subst he
  exact leaf_end calNone false 200 [hB 10 4 (decide ((r.cmd.taxes.length : Int) < (r.cmd.taxes.length : Int))) false (decide_eq_false (by omega)), hB 14 4 _ true (D r.kind), hB 14 10 _ true (D r.frm), hB 14 17 _ true (D r.number), hO 14 24 hM, hB 14 33 _ true (D r.cmd.kind), hO 14 42 hK, hB 14 51 _ true (D r.cmd.at_), hB 14 60 _ true (D r.cmd.amount), hB 14 67 (r.cmd.name.toList == r.cmd.name.toList) true (beq_self_eq_true _), hB 14 74 _ true (D r.cmd.fare), hB 14 81 _ true (D r.cmd.penalty)] calNone_ok (by kernel_rfl)
end Go.Proofs.Ytfcjmpgbohgoeaa
end
section
namespace Go.Proofs.Ytfcjmpgbohgoeaa
open Go.RowKit Go.Lib Go.Tk Go.Shelf Go.Vc Go.Sx
set_option linter.unusedVariables false
set_option linter.unusedSimpArgs false
theorem rdv' {E : TypeId} {size n c : Nat} {v : Value} {a : Option Addr} {xs : List Value} (h : v = .slice a n c) : Rd (rowC E size v n xs) a xs := by subst h; exact rd_row
def u8Row (bs : List Int) : SC := .row 5 1 bs.length (.shal (bs.map (.int .u8))) []
/-- codec.Get by contract -/
theorem getk_ok (bs : List Int) (hin : ∀ x ∈ bs, 0 ≤ x ∧ x ≤ 255) (hb : bs.length ≤ 800000) :
    CallOK Try.prog 16 [.raw 0 0] [] [((0, 0), u8Row bs)] (.tup [.agg (recS (getR bs) (.raw 1 0) (.raw 1 1)), .val (.int .i64 (getE bs))]) [((0, 0), u8Row bs), ((1, 0), legRow (getR bs).cmd.legs.length (cellsL legE (getR bs).cmd.legs)), ((1, 1), taxRow (getR bs).cmd.taxes.length (cellsL taxE (getR bs).cmd.taxes))] := by
  intro ε R w hM
  have hM : Mem (rowC 5 1 (asSl (ε 0 0).2) bs.length (bs.map (.int .u8)) :: R) w := hM
  obtain ⟨a, c, hv, -, h1, -, h2⟩ := (hM.owns 0 rfl).row
  have e : (SV.dens ε [.raw 0 0]).toArray = #[.slice a bs.length c] := by rw [← hv]; rfl
  rw [e]
  refine (get_at a c bs _ R w hM (rdv' hv) h1 h2 hin hb).mono ?_
  rintro e' w' ⟨vl, vt, rfl, hm⟩
  have e1 : asSl vl = vl := asSl_self (hm.owns 0 rfl)
  have e2 : asSl vt = vt := asSl_self (hm.owns 1 rfl)
  refine ⟨fun k => (0, bif Nat.beq k 0 then vl else vt), ?_, ?_⟩
  · have : recCells (getR bs) vl vt = recCells (getR bs) (asSl vl) (asSl vt) := by rw [e1, e2]
    rw [this]; rfl
  · have hm : Mem (rowC 36 3 (asSl vl) (getR bs).cmd.legs.length (cellsL legE (getR bs).cmd.legs) :: rowC 58 2 (asSl vt) (getR bs).cmd.taxes.length (cellsL taxE (getR bs).cmd.taxes) :: rowC 5 1 (asSl (ε 0 0).2) bs.length (bs.map (.int .u8)) :: R) w' := by rw [e1, e2]; exact hm
    exact hm.front 2 rfl
theorem puts_ok : CallOK Try.prog 15 [] [] [] (.val (.bool true)) [] := fun ε R w hM =>
  (puts_at R w hM).mono fun e w' ⟨h, hm⟩ => ⟨fun _ => (0, undef), h, hm⟩
def CG : Nat := 4
theorem gets_ok (a : Option Addr) (c : Nat) (bs : List Int) (D : Chunk) (hR : Rd D a (bs.map (.int .u8))) (hlc : bs.length ≤ c) (hac : a = none → c = 0) (hin : ∀ x ∈ bs, 0 ≤ x ∧ x ≤ 255) :
    CallOK Try.prog CG [.val (.slice a bs.length c)] [] [((0, 0), .fam fun _ _ => D)] (.val (.bool true)) [((0, 0), .fam fun _ _ => D)] := by
  by_cases hl : (bs.length : Int) > 1000
  · refine callOK_intro (by kernel_rfl) fun eb R => ?_
    exact leaf_end calNone false 200 [hB 1 2 (decide ((bs.length : Int) > 1000)) true (decide_eq_true hl)] calNone_ok (by kernel_rfl)
  have hg := rget_ok a c bs D hR hlc hac hin (by omega)
  obtain ⟨hr, he⟩ := rget_eq bs (fun x hx => by have := hin x hx; omega)
  rw [hr, he] at hg
  have hk := getk_ok bs hin (by omega)
  have hn : (getR bs).cmd.legs.length ≤ 1000000 ∧ (getR bs).cmd.taxes.length ≤ 1000000 := by
    by_cases h : getE bs = 0
    · have h2 := (put_of_get (fun x hx => by have := hin x hx; omega) h).1.s
      exact ⟨by have := h2.legs; omega, by have := h2.taxes; omega⟩
    · rw [(get_bad h).2]; decide
  have hs := same_refl (getR bs) hn
  have ha := app_open (P := Try.prog) (o := opOf Try.prog CG 4 2) (a := a) (cap := c) (n := bs.length) (xs := bs.map (.int .u8)) (D := D) (size := 1) rfl rfl rfl rfl Try.underlying47 Try.underlying47 ⟨(Try.prog.info? 5).get (by kernel_rfl), .int .u8 0, (Option.some_get _).symm, by kernel_rfl, by kernel_rfl, rfl, by decide, Nat.le_of_ble_eq_true (by kernel_rfl)⟩ (by simp) (fun u hu => by obtain ⟨x, -, rfl⟩ := List.mem_map.1 hu; rfl) hR (by omega)
  have hstr := str_open (P := Try.prog) (o := opOf Try.prog CG 7 12) (a := a) (cap := c) (n := bs.length) (bs := bs) (D := D) rfl Try.underlying47 Try.underlying5 Try.underlying9 rfl hR
  refine callOK_intro (by kernel_rfl) fun eb R => ?_
  exact leaf_end calNone false 200 [hB 1 2 (decide ((bs.length : Int) > 1000)) false (decide_eq_false hl), hO 4 2 ha, hC 5 1 hk, hC 6 1 hg, hC 7 2 hs, hB 7 6 (decide (getE bs = getE bs)) true (decide_eq_true rfl), .opt 7 10 (.u8 (bs.map (.int .u8)) (by rw [List.map_map, List.map_map]; rfl)), hO 7 12 hstr, hB 7 13 ((ofBytes ((bs.map (Value.int .u8)).map Sx.intOf)).toList == (ofBytes bs).toList) true (by rw [List.map_map, show Sx.intOf ∘ Value.int .u8 = id from rfl, List.map_id]; exact beq_self_eq_true _), hC 7 16 puts_ok] calNone_ok (by kernel_rfl)
theorem isRow_bytes' {w : World} {a : Option Addr} {n c : Nat} {zs : List Int} (h : IsRow .u8 w a n c zs) : ∃ xs : List Int, xs.length = n ∧ Row w a (xs.map (.int .u8)) ∧ n ≤ c ∧ n ≤ maxLen ∧ (a = none → c = 0) ∧ By xs := by
  have hnc : n ≤ c := by
    rcases h with ⟨-, rfl, rfl, -⟩ | ⟨x, -, hl, -⟩
    · exact Nat.le_refl _
    · exact hl
  obtain ⟨xs, h1, h2, h3, h4, h5⟩ := h.row
  exact ⟨xs, h1, h2, hnc, h3, h4, fun x hx => wf_u8 (h5 x hx)⟩
set_option maxRecDepth 100000 in
set_option maxHeartbeats 8000000 in
theorem gets_any (ab : Option Addr) (n cb : Nat) (zs : List Int) (w : World) (hb : IsRow .u8 w ab n cb zs) :
    Calls Try.prog CG #[.slice ab n cb] w fun e w' => e = .returned (.bool true) ∧ Below w.heap.size w w' := by
  obtain ⟨bs, h1, h4, h2, h3, h5, h6⟩ := isRow_bytes' hb
  subst h1
  exact (gets_ok ab cb bs (oldC w) (rd_old h4) h2 h5 h6 (fun _ _ => (0, undef)) [] w (Mem.old w)).mono fun e w' ⟨x, h, hm⟩ => ⟨h, (show Mem (oldC w :: []) w' from hm).below 0 rfl⟩
end Go.Proofs.Ytfcjmpgbohgoeaa
end
