/- CODEC: the document's reader: bytes taken, values. -/
import Derived.Test.YtfcjmpgbohgoeaaCo26
import Derived.Laws.MakeOwn
namespace Go.Proofs.Ytfcjmpgbohgoeaa
open Go.RowKit Go.Lib Go.Tk Go.Shelf Go.Vc
set_option linter.unusedVariables false
set_option linter.unusedSimpArgs false
attribute [-go_sem] loadCellsFrom
abbrev rfails (σ : WS) (n : Nat) : Prop := σ.bs.length < n ∨ σ.bad = true
def rtake (σ : WS) (n : Nat) : WS := if rfails σ n then ⟨true, σ.bs⟩ else ⟨false, σ.bs.drop n⟩
def rbytes (σ : WS) (n : Nat) : List Int := if rfails σ n then List.replicate n 0 else σ.bs.take n
def takC (D : Chunk) (σ : WS) (n : Nat) (v : Value) : Chunk := if rfails σ n then rowC 5 1 v n ((List.replicate n (0 : Int)).map (.int .u8)) else pureC (∃ a c, v = .slice a n c ∧ Rd D a ((σ.bs.take n).map (Value.int .u8)))
theorem rbytes_len (σ : WS) (n : Nat) : (rbytes σ n).length = n := by
 unfold rbytes
 split
 · simp
 ·
  rename_i h
  rw [List.length_take]
  have : ¬ σ.bs.length < n := fun h2 => h (.inl h2)
  omega
theorem rdC_open {D : Chunk} {pw : Nat} {σ : WS} {R : List Chunk} {w : World} (h : Mem (rdC D pw σ :: R) w) : ∃ a c, Mem (boxC pw #[.slice a σ.bs.length c, .bool (!σ.bad)] :: D :: R) w ∧ σ.bs.length ≤ c ∧ Rd D a (σ.bs.map (.int .u8)) ∧ (a = none → c = 0) ∧ ∀ x ∈ σ.bs, 0 ≤ x ∧ x ≤ 255 := by
 obtain ⟨v, h⟩ := h.ex
 have h2 := h.all (l := [boxC pw #[v, .bool (!σ.bad)], D, pureC (InSlice D v σ.bs)])
 obtain ⟨a, c, rfl, k1, k2, k3, k4⟩ := (h2.front 2 rfl).pure
 exact ⟨a, c, h2.erase 2 rfl, k1, k2, k3, k4⟩
theorem rdC_shut {D : Chunk} {pw : Nat} {σ : WS} {v : Value} {R : List Chunk} {w : World} (h : Mem (boxC pw #[v, .bool (!σ.bad)] :: D :: R) w) (hi : InSlice D v σ.bs) : Mem (rdC D pw σ :: R) w :=
 Mem.in_ex v (Mem.in_all (l := [boxC pw #[v, .bool (!σ.bad)], D, pureC (InSlice D v σ.bs)]) (((Mem.in_pure hi h).front 2 rfl).front 2 rfl))
theorem rdTake {D : Chunk} {a : Option Addr} {xs : List Int} (h : Rd D a (xs.map (Value.int .u8))) (k : Nat) : Rd D a ((xs.take k).map (Value.int .u8)) := fun S w hw => by
 have := h S w hw
 rw [← List.take_append_drop k xs, List.map_append] at this
 exact this.append
theorem x_makeSlice {P : Program} {w w' : World} {ρ : Operand → Value} {o : Oper} {t : TypeId} {x y : Operand} {v u r : Value} (ho : o.op = .makeSlice t x y) (hx : ρ x = v) (hy : ρ y = u) (hr : (Instr.makeSlice t v u).run P w = .ok r w') : (execOp ρ o).run P w = .ok (.value r) w' := by
 unfold execOp; rw [ho]; simp [hx, hy, hr]
theorem u8_info : (Try.prog.info? 5).map (fun i => (i.zero, i.size, i.bytes)) = some (some (.int .u8 0), 1, 1) := by kernel_rfl
theorem made_u8 {m : Nat} : madeCells (Value.int .u8 0).cells (m * 1) = ((List.replicate m (0 : Int)).map (Value.int .u8)).toArray := by
 unfold madeCells
 refine Array.ext (by simp) fun i h1 h2 => ?_
 simp [Value.cells, Nat.mod_one]
theorem make_u8 (m : Nat) (hm : m ≤ 1000) (w : World) : (Instr.makeSlice 47 (.int .i64 (m : Int)) (.int .i64 (m : Int))).run Try.prog w = .ok (.slice (some ⟨w.heap.size, 0, none⟩) m m) (w.alloc (.cells ((List.replicate m (0 : Int)).map (Value.int .u8)).toArray 5)) := by
 obtain ⟨i, hi, hq⟩ := Option.map_eq_some_iff.1 u8_info
 simp only [Prod.mk.injEq] at hq
 have := run_make (P := Try.prog) w 47 5 i (.int .u8 0) Try.underlying47 hi hq.1 .i64 .i64 m m (by omega) (Int.le_refl _) (by rw [hq.2.2]; omega) (by omega)
 rw [hq.2.1, Int.toNat_natCast, made_u8] at this
 exact this
/-- what was taken can be read -/
theorem tak_reads {D : Chunk} {pw : Nat} {σ τ : WS} {n : Nat} {v : Value} {R : List Chunk} {w : World} (h : Mem (rdC D pw τ :: takC D σ n v :: R) w) : ∃ a c, v = .slice a n c ∧ Reads (rdC D pw τ :: takC D σ n v :: R) a ((rbytes σ n).map (.int .u8)) := by
 unfold takC rbytes at *
 split at h
 ·
  rename_i hf
  rw [if_pos hf]
  obtain ⟨a, c, rfl, hr, -⟩ := (h.owns 1 rfl).row
  refine ⟨a, c, rfl, fun w' hw => ?_⟩
  rw [if_pos hf]
  exact rd_row.row hw 1 rfl
 ·
  rename_i hf
  rw [if_neg hf]
  obtain ⟨a, c, rfl, hr⟩ := (h.front 1 rfl).pure
  refine ⟨a, c, rfl, fun w' hw => ?_⟩
  obtain ⟨a', c', hw, -⟩ := rdC_open hw
  rw [if_neg hf]
  exact hr.row hw 1 rfl
set_option maxRecDepth 100000 in
set_option maxHeartbeats 8000000 in
theorem rtake_at (D : Chunk) (pw : Nat) (σ : WS) (n : Nat) (R : List Chunk) (w : World) (hM : Mem (rdC D pw σ :: R) w) (hn : n ≤ 40) (hb : σ.bs.length ≤ 1000000) :
  Calls Try.prog 49 #[.pointer (some ⟨pw, 0, none⟩), .int .i64 n] w fun e w' => ∃ v, e = .returned v ∧ Mem (rdC D pw (rtake σ n) :: takC D σ n v :: R) w' := by
 obtain ⟨a, c, hM, hlc, hR, hac, hin⟩ := rdC_open hM
 refine enter Try.func49 rfl Try.ntmps49 (Nat.le_of_ble_eq_true rfl) ?_
 intro a0 hz0 hd0 hg0
 have g0_0 : a0.tmps[0]? = some (.pointer (some ⟨pw, 0, none⟩)) := hg0 0 _ rfl
 have g1_0 : a0.tmps[1]? = some (.int .i64 (n : Int)) := hg0 1 _ rfl
 clear hg0
 have hM0 : Mem (boxC pw #[.slice a σ.bs.length c, .bool (!σ.bad)] :: D :: R) _ := hM
 refine wp_seq ?_
 refine region_seq 41 (fun zz e => (#[.slice none 0 0] : Array Value).getD zz undef) (fun k e w => Mem (List.getD [boxC pw #[.slice a σ.bs.length c, .bool (!σ.bad)] :: D :: R] k []) w) (fun _ => (0, undef)) [] [0] (fun _ _ => false) hz0 (by kernel_rfl) (by kernel_rfl) (by kernel_rfl) ?_ (show Mem _ _ from hM0) ?_ ?_
 · exact ⟨fun _ _ _ => rfl, trivial⟩
 ·
  refine ⟨?_, trivial⟩
  · exact op2 (a := 0) rfl fun e w ρ (hM : Mem _ w) E => res_ok (x_assign rfl (E.c _)) (goes_still rfl rfl hM)
 ·
  intro e a1 w1 hz1 hd hG hO hM
  have hd1 := hd.trans hd0
  have g0_1 := (hO 0 rfl).trans g0_0
  have g1_1 := (hO 1 rfl).trans g1_0
  have g4_1 : a1.tmps[4]? = some (.slice none 0 0) := hG 0 _ 4 rfl rfl
  have hM1 : Mem (boxC pw #[.slice a σ.bs.length c, .bool (!σ.bad)] :: D :: R) w1 := hM
  clear hM hG hO hd
  clear hz0 hd0 hM0 g0_0 g1_0
  refine then_n ?_
  refine wp_seq ?_
  refine wp_seq ?_
  obtain ⟨z1_7, hz1_7⟩ : ∃ z : Bool, z = (decide ((σ.bs.length : Int) < (n : Int))) := ⟨_, rfl⟩
  refine region_seq 41 (fun zz e => (#[.pointer (some ⟨pw, 0, none⟩), .pointer (some ⟨pw, 0, none⟩), .pointer (some ⟨pw, 0, none⟩), .slice a σ.bs.length c, .int .i64 (σ.bs.length : Int), .int .i64 (n : Int), .bool (decide ((σ.bs.length : Int) < (n : Int))), .bool z1_7, (gd z1_7 false (.pointer (some ⟨pw, 0, none⟩))), (gd z1_7 false (.pointer (some ⟨pw, 0, none⟩))), (gd z1_7 false (.pointer (some ⟨pw, 1, none⟩))), (gd z1_7 false (.bool (!σ.bad))), (gd z1_7 false (.bool σ.bad)), .bool (z1_7 || σ.bad)] : Array Value).getD zz undef) (fun k e w => Mem (List.getD [boxC pw #[.slice a σ.bs.length c, .bool (!σ.bad)] :: D :: R] k []) w) (fun _ => (0, undef)) [] [0, 0, 0, 0, 0, 0, 0, 0, 0, 0, 0, 0, 0, 0] (fun _ _ => false) hz1 (by kernel_rfl) (by kernel_rfl) (by kernel_rfl) ?_ (show Mem _ _ from hM1) ?_ ?_
  · exact ⟨fun _ _ _ => rfl, fun _ _ _ => rfl, fun _ _ _ => rfl, fun _ _ _ => rfl, fun _ _ _ => rfl, fun _ _ _ => rfl, fun _ _ _ => rfl, fun _ _ _ => rfl, fun _ _ _ => rfl, fun _ _ _ => rfl, fun _ _ _ => rfl, fun _ _ _ => rfl, fun _ _ _ => rfl, fun _ _ _ => rfl, trivial⟩
  ·
   refine ⟨?_, ?_, ?_, ?_, ?_, ?_, ?_, ?_, ?_, ?_, ?_, ?_, ?_, ?_, trivial⟩
   · exact op2 (a := 0) rfl fun e w ρ (hM : Mem _ w) E => res_ok (x_move rfl (E.o 0 _ rfl g0_1)) (goes_still rfl rfl hM)
   · exact op2 (a := 0) rfl fun e w ρ (hM : Mem _ w) E => res_ok (x_nil rfl (E.d 0 _ 6 rfl rfl rfl)) (goes_still rfl rfl hM)
   · exact op2 (a := 0) rfl fun e w ρ (hM : Mem _ w) E => res_ok (x_fieldAddr (off := 0) rfl (E.d 1 _ 7 rfl rfl rfl) (by kernel_rfl) rfl) (goes_still rfl rfl hM)
   · exact op2 (a := 0) rfl fun e w ρ (hM : Mem _ w) E => res_ok (x_load rfl (E.d 2 _ 8 rfl rfl rfl) (by kernel_rfl) ((hM.box 0 rfl).cell 0 rfl)) (goes_still rfl rfl hM)
   ·
    refine op2 (a := 0) rfl fun e w ρ (hM : Mem _ w) E => ?_
    have e9 : ρ (.tmp 9) = .slice a σ.bs.length c := E.d 3 _ 9 rfl rfl rfl
    exact res_ok (x_len (n := 1) rfl rfl rfl rfl (e9) (by kernel_rfl)) (goes_still rfl rfl hM)
   · exact op2 (a := 0) rfl fun e w ρ (hM : Mem _ w) E => res_ok (x_move rfl (E.o 1 _ rfl g1_1)) (goes_still rfl rfl hM)
   · exact op2 (a := 0) rfl fun e w ρ (hM : Mem _ w) E => res_ok (x_lss rfl (E.d 4 _ 10 rfl rfl rfl) (E.d 5 _ 11 rfl rfl rfl) rfl) (goes_still rfl rfl hM)
   · exact op2 (a := 0) rfl fun e w ρ (hM : Mem _ w) E => res_ok (x_move rfl (E.d 6 _ 12 rfl rfl rfl)) (goes_still rfl (congrArg Value.bool hz1_7.symm) hM)
   · exact op3 (a := 0) z1_7 rfl (fun _ => rfl) rfl (fun hC _ => (gd_no hC).symm) fun hC e w ρ (hM : Mem _ w) E => res_ok (x_move rfl (E.o 0 _ rfl g0_1)) (goes_still rfl (gd_yes hC).symm hM)
   · exact op3 (a := 0) z1_7 rfl (fun _ => rfl) rfl (fun hC _ => (gd_no hC).symm) fun hC e w ρ (hM : Mem _ w) E => res_ok (x_nil rfl ((E.d 8 _ 14 rfl rfl rfl).trans (gd_yes hC))) (goes_still rfl (gd_yes hC).symm hM)
   · exact op3 (a := 0) z1_7 rfl (fun _ => rfl) rfl (fun hC _ => (gd_no hC).symm) fun hC e w ρ (hM : Mem _ w) E => res_ok (x_fieldAddr (off := 1) rfl ((E.d 9 _ 15 rfl rfl rfl).trans (gd_yes hC)) (by kernel_rfl) rfl) (goes_still rfl (gd_yes hC).symm hM)
   · exact op3 (a := 0) z1_7 rfl (fun _ => rfl) rfl (fun hC _ => (gd_no hC).symm) fun hC e w ρ (hM : Mem _ w) E => res_ok (x_load rfl ((E.d 10 _ 16 rfl rfl rfl).trans (gd_yes hC)) (by kernel_rfl) ((hM.box 0 rfl).cell 1 rfl)) (goes_still rfl (gd_yes hC).symm hM)
   · exact op3 (a := 0) z1_7 rfl (fun _ => rfl) rfl (fun hC _ => (gd_no hC).symm) fun hC e w ρ (hM : Mem _ w) E => res_ok (x_not rfl ((E.d 11 _ 17 rfl rfl rfl).trans (gd_yes hC)) (Bool.not_not _)) (goes_still rfl (gd_yes hC).symm hM)
   · exact op2 (a := 0) rfl fun e w ρ (hM : Mem _ w) E => res_ok (x_pickOr rfl (E.d 7 _ 13 rfl rfl rfl) (fun hC => ((E.d 12 _ 18 rfl rfl rfl).trans (gd_f hC))) (E.c _)) (goes_still rfl rfl hM)
  ·
   intro e a2 w2 hz2 hd hG hO hM
   have hd2 := hd.trans hd1
   have g0_2 := (hO 0 rfl).trans g0_1
   have g1_2 := (hO 1 rfl).trans g1_1
   have g4_2 := (hO 4 rfl).trans g4_1
   have g19_2 : a2.tmps[19]? = some (.bool (z1_7 || σ.bad)) := hG 13 _ 19 rfl rfl
   have hM2 : Mem (boxC pw #[.slice a σ.bs.length c, .bool (!σ.bad)] :: D :: R) w2 := hM
   clear hM hG hO hd
   clear hz1 hd1 hM1 g0_1 g1_1 g4_1
   refine then_n ?_
   cases hc1 : z1_7 || σ.bad
   ·
    refine cond_f (g19_2.trans (by rw [hc1])) ?_
    have hnb : ¬ (σ.bs.length : Int) < (n : Int) := by
     intro h2
     have hz0 := hc1
     rw [hz1_7, decide_eq_true h2] at hz0; cases hz0
    refine wp_skip ?_
    refine then_n ?_
    refine wp_seq ?_
    refine region_seq 41 (fun zz e => (#[.pointer (some ⟨pw, 0, none⟩), .pointer (some ⟨pw, 0, none⟩), .pointer (some ⟨pw, 0, none⟩), .slice a σ.bs.length c, .int .i64 (n : Int), .slice a n c, .slice a n c] : Array Value).getD zz undef) (fun k e w => Mem (List.getD [boxC pw #[.slice a σ.bs.length c, .bool (!σ.bad)] :: D :: R] k []) w) (fun _ => (0, undef)) [] [0, 0, 0, 0, 0, 0, 0] (fun _ _ => false) hz2 (by kernel_rfl) (by kernel_rfl) (by kernel_rfl) ?_ (show Mem _ _ from hM2) ?_ ?_
    · exact ⟨fun _ _ _ => rfl, fun _ _ _ => rfl, fun _ _ _ => rfl, fun _ _ _ => rfl, fun _ _ _ => rfl, fun _ _ _ => rfl, fun _ _ _ => rfl, trivial⟩
    ·
     refine ⟨?_, ?_, ?_, ?_, ?_, ?_, ?_, trivial⟩
     · exact op2 (a := 0) rfl fun e w ρ (hM : Mem _ w) E => res_ok (x_move rfl (E.o 0 _ rfl g0_2)) (goes_still rfl rfl hM)
     · exact op2 (a := 0) rfl fun e w ρ (hM : Mem _ w) E => res_ok (x_nil rfl (E.d 0 _ 25 rfl rfl rfl)) (goes_still rfl rfl hM)
     · exact op2 (a := 0) rfl fun e w ρ (hM : Mem _ w) E => res_ok (x_fieldAddr (off := 0) rfl (E.d 1 _ 26 rfl rfl rfl) (by kernel_rfl) rfl) (goes_still rfl rfl hM)
     · exact op2 (a := 0) rfl fun e w ρ (hM : Mem _ w) E => res_ok (x_load rfl (E.d 2 _ 27 rfl rfl rfl) (by kernel_rfl) ((hM.box 0 rfl).cell 0 rfl)) (goes_still rfl rfl hM)
     · exact op2 (a := 0) rfl fun e w ρ (hM : Mem _ w) E => res_ok (x_move rfl (E.o 1 _ rfl g1_2)) (goes_still rfl rfl hM)
     ·
      refine op2 (a := 0) rfl fun e w ρ (hM : Mem _ w) E => ?_
      have e28 : ρ (.tmp 28) = .slice a σ.bs.length c := E.d 3 _ 28 rfl rfl rfl
      have e29 : ρ (.tmp 29) = .int .i64 (n : Int) := E.d 4 _ 29 rfl rfl rfl
      exact res_ok (x_sliceHi (n := 1) rfl (e28) (e29) (by kernel_rfl) (by omega)) (goes_still rfl rfl hM)
     · exact op2 (a := 0) rfl fun e w ρ (hM : Mem _ w) E => res_ok (x_assign rfl (E.d 5 _ 30 rfl rfl rfl)) (goes_still rfl rfl hM)
    ·
     intro e a3 w3 hz3 hd hG hO hM
     have hd3 := hd.trans hd2
     have g0_3 := (hO 0 rfl).trans g0_2
     have g1_3 := (hO 1 rfl).trans g1_2
     have g4_3 := (hO 4 rfl).trans g4_2
     have g5_3 : a3.tmps[5]? = some (.slice a n c) := hG 6 _ 5 rfl rfl
     have hM3 : Mem (boxC pw #[.slice a σ.bs.length c, .bool (!σ.bad)] :: D :: R) w3 := hM
     clear hM hG hO hd
     clear hz2 hd2 hM2 g0_2 g1_2 g4_2 g19_2
     refine then_n ?_
     refine wp_seq ?_
     refine region_seq 41 (fun zz e => (#[.pointer (some ⟨pw, 0, none⟩), .pointer (some ⟨pw, 0, none⟩), .pointer (some ⟨pw, 0, none⟩), .pointer (some ⟨pw, 0, none⟩), .slice a σ.bs.length c, .int .i64 (n : Int), .slice (if c = n then a else a.map (·.add (n * 1))) (σ.bs.length - n) (c - n), .pointer (some ⟨pw, 0, none⟩), .pointer (some ⟨pw, 0, none⟩), undef] : Array Value).getD zz undef) (fun k e w => Mem (List.getD [boxC pw #[.slice a σ.bs.length c, .bool (!σ.bad)] :: D :: R, boxC pw #[.slice (if c = n then a else a.map (·.add (n * 1))) (σ.bs.length - n) (c - n), .bool (!σ.bad)] :: D :: R] k []) w) (fun _ => (0, undef)) [9] [0, 0, 0, 0, 0, 0, 0, 0, 0, 0] (fun _ _ => false) hz3 (by kernel_rfl) (by kernel_rfl) (by kernel_rfl) ?_ (show Mem _ _ from hM3) ?_ ?_
     · exact ⟨fun _ _ _ => rfl, fun _ _ _ => rfl, fun _ _ _ => rfl, fun _ _ _ => rfl, fun _ _ _ => rfl, fun _ _ _ => rfl, fun _ _ _ => rfl, fun _ _ _ => rfl, fun _ _ _ => rfl, fun _ _ _ => rfl, trivial⟩
     ·
      refine ⟨?_, ?_, ?_, ?_, ?_, ?_, ?_, ?_, ?_, ?_, trivial⟩
      · exact op2 (a := 0) rfl fun e w ρ (hM : Mem _ w) E => res_ok (x_move rfl (E.o 0 _ rfl g0_3)) (goes_still rfl rfl hM)
      · exact op2 (a := 0) rfl fun e w ρ (hM : Mem _ w) E => res_ok (x_move rfl (E.o 0 _ rfl g0_3)) (goes_still rfl rfl hM)
      · exact op2 (a := 0) rfl fun e w ρ (hM : Mem _ w) E => res_ok (x_nil rfl (E.d 1 _ 32 rfl rfl rfl)) (goes_still rfl rfl hM)
      · exact op2 (a := 0) rfl fun e w ρ (hM : Mem _ w) E => res_ok (x_fieldAddr (off := 0) rfl (E.d 2 _ 33 rfl rfl rfl) (by kernel_rfl) rfl) (goes_still rfl rfl hM)
      · exact op2 (a := 0) rfl fun e w ρ (hM : Mem _ w) E => res_ok (x_load rfl (E.d 3 _ 34 rfl rfl rfl) (by kernel_rfl) ((hM.box 0 rfl).cell 0 rfl)) (goes_still rfl rfl hM)
      · exact op2 (a := 0) rfl fun e w ρ (hM : Mem _ w) E => res_ok (x_move rfl (E.o 1 _ rfl g1_3)) (goes_still rfl rfl hM)
      ·
       refine op2 (a := 0) rfl fun e w ρ (hM : Mem _ w) E => ?_
       have e35 : ρ (.tmp 35) = .slice a σ.bs.length c := E.d 4 _ 35 rfl rfl rfl
       have e36 : ρ (.tmp 36) = .int .i64 (n : Int) := E.d 5 _ 36 rfl rfl rfl
       exact res_ok (x_sliceLo (n := 1) rfl (e35) (e36) (by kernel_rfl) (by omega)) (goes_still rfl rfl hM)
      · exact op2 (a := 0) rfl fun e w ρ (hM : Mem _ w) E => res_ok (x_nil rfl (E.d 0 _ 31 rfl rfl rfl)) (goes_still rfl rfl hM)
      · exact op2 (a := 0) rfl fun e w ρ (hM : Mem _ w) E => res_ok (x_fieldAddr (off := 0) rfl (E.d 7 _ 38 rfl rfl rfl) (by kernel_rfl) rfl) (goes_still rfl rfl hM)
      ·
       refine op2 (a := 0) rfl fun e w ρ (hM : Mem _ w) E => ?_
       have e37 := E.d 6 _ 37 rfl rfl rfl
       have e39 := E.d 8 _ 39 rfl rfl rfl
       obtain ⟨w', hr, hm⟩ := Mem.store (P := Try.prog) hM 0 rfl 47 0 (.slice (if c = n then a else a.map (·.add (n * 1))) (σ.bs.length - n) (c - n)) [.slice (if c = n then a else a.map (·.add (n * 1))) (σ.bs.length - n) (c - n)] rfl (by kernel_rfl) (Nat.le_of_ble_eq_true rfl) (by rfl)
       exact res_st (x_store rfl (e39) (e37) hr) (goes_tick rfl (0, undef) rfl hm)
     ·
      intro e a4 w4 hz4 hd hG hO hM
      have hd4 := hd.trans hd3
      have g4_4 := (hO 4 rfl).trans g4_3
      have g5_4 := (hO 5 rfl).trans g5_3
      have hM4 : Mem (boxC pw #[.slice (if c = n then a else a.map (·.add (n * 1))) (σ.bs.length - n) (c - n), .bool (!σ.bad)] :: D :: R) w4 := hM
      clear hM hG hO hd
      clear hz3 hd3 hM3 g0_3 g1_3 g4_3 g5_3
      refine then_n ?_
      refine wp_seq ?_
      refine region_seq 41 (fun zz e => (#[.slice a n c, .slice a n c] : Array Value).getD zz undef) (fun k e w => Mem (List.getD [boxC pw #[.slice (if c = n then a else a.map (·.add (n * 1))) (σ.bs.length - n) (c - n), .bool (!σ.bad)] :: D :: R] k []) w) (fun _ => (0, undef)) [] [0, 0] (fun _ _ => false) hz4 (by kernel_rfl) (by kernel_rfl) (by kernel_rfl) ?_ (show Mem _ _ from hM4) ?_ ?_
      · exact ⟨fun _ _ _ => rfl, fun _ _ _ => rfl, trivial⟩
      ·
       refine ⟨?_, ?_, trivial⟩
       · exact op2 (a := 0) rfl fun e w ρ (hM : Mem _ w) E => res_ok (x_move rfl (E.o 5 _ rfl g5_4)) (goes_still rfl rfl hM)
       · exact op2 (a := 0) rfl fun e w ρ (hM : Mem _ w) E => res_ok (x_assign rfl (E.d 0 _ 40 rfl rfl rfl)) (goes_still rfl rfl hM)
      ·
       intro e a5 w5 hz5 hd hG hO hM
       have hd5 := hd.trans hd4
       have g4_5 : a5.tmps[4]? = some (.slice a n c) := hG 1 _ 4 rfl rfl
       have hM5 : Mem (boxC pw #[.slice (if c = n then a else a.map (·.add (n * 1))) (σ.bs.length - n) (c - n), .bool (!σ.bad)] :: D :: R) w5 := hM
       clear hM hG hO hd
       clear hz4 hd4 hM4 g4_4 g5_4
       refine then_n ?_
       refine wp_ret ?_
       refine ret_1 Try.results49 hd5 g4_5 ?_
       have hz := hc1
       rw [hz1_7] at hz
       rw [Bool.or_eq_false_iff, decide_eq_false_iff_not] at hz
       have hf : ¬ rfails σ n := by
        rintro (h | h)
        · exact hz.1 (by omega)
        · rw [hz.2] at h; cases h
       refine ⟨_, rfl, ?_⟩
       rw [show rtake σ n = ⟨false, σ.bs.drop n⟩ from if_neg hf, show takC D σ n _ = _ from if_neg hf]
       have hm := rdC_shut (σ := ⟨false, σ.bs.drop n⟩) (by rw [show (!(false : Bool)) = (!σ.bad) from by rw [hz.2]]; exact ((hM5.front 1 rfl).front 1 rfl)) (inSlice_drop hR hlc hac hin (by omega))
       exact (Mem.in_pure ⟨a, c, rfl, rdTake hR n⟩ hm).front 1 rfl
   ·
    refine cond_t (g19_2.trans (by rw [hc1])) ?_
    refine wp_seq ?_
    refine region_seq 41 (fun zz e => (#[.pointer (some ⟨pw, 0, none⟩), .pointer (some ⟨pw, 0, none⟩), .pointer (some ⟨pw, 1, none⟩), undef] : Array Value).getD zz undef) (fun k e w => Mem (List.getD [boxC pw #[.slice a σ.bs.length c, .bool (!σ.bad)] :: D :: R, boxC pw #[.slice a σ.bs.length c, .bool false] :: D :: R] k []) w) (fun _ => (0, undef)) [3] [0, 0, 0, 0] (fun _ _ => false) hz2 (by kernel_rfl) (by kernel_rfl) (by kernel_rfl) ?_ (show Mem _ _ from hM2) ?_ ?_
    · exact ⟨fun _ _ _ => rfl, fun _ _ _ => rfl, fun _ _ _ => rfl, fun _ _ _ => rfl, trivial⟩
    ·
     refine ⟨?_, ?_, ?_, ?_, trivial⟩
     · exact op2 (a := 0) rfl fun e w ρ (hM : Mem _ w) E => res_ok (x_move rfl (E.o 0 _ rfl g0_2)) (goes_still rfl rfl hM)
     · exact op2 (a := 0) rfl fun e w ρ (hM : Mem _ w) E => res_ok (x_nil rfl (E.d 0 _ 20 rfl rfl rfl)) (goes_still rfl rfl hM)
     · exact op2 (a := 0) rfl fun e w ρ (hM : Mem _ w) E => res_ok (x_fieldAddr (off := 1) rfl (E.d 1 _ 21 rfl rfl rfl) (by kernel_rfl) rfl) (goes_still rfl rfl hM)
     ·
      refine op2 (a := 0) rfl fun e w ρ (hM : Mem _ w) E => ?_
      have e22 := E.d 2 _ 22 rfl rfl rfl
      obtain ⟨w', hr, hm⟩ := Mem.store (P := Try.prog) hM 0 rfl 4 1 (.bool false) [.bool false] rfl (by kernel_rfl) (Nat.le_of_ble_eq_true rfl) (by rfl)
      exact res_st (x_store rfl (e22) (E.c _) hr) (goes_tick rfl (0, undef) rfl hm)
    ·
     intro e a6 w6 hz6 hd hG hO hM
     have hd6 := hd.trans hd2
     have g0_6 := (hO 0 rfl).trans g0_2
     have g1_6 := (hO 1 rfl).trans g1_2
     have g4_6 := (hO 4 rfl).trans g4_2
     have hM6 : Mem (boxC pw #[.slice a σ.bs.length c, .bool false] :: D :: R) w6 := hM
     clear hM hG hO hd
     clear hz2 hd2 hM2 g0_2 g1_2 g4_2 g19_2
     refine then_n ?_
     refine wp_seq ?_
     refine region_seq 41 (fun zz e => (#[.int .i64 (n : Int), .slice (some ⟨(e 0).1, 0, none⟩) n n, .slice (some ⟨(e 0).1, 0, none⟩) n n] : Array Value).getD zz undef) (fun k e w => Mem (List.getD [boxC pw #[.slice a σ.bs.length c, .bool false] :: D :: R, rowC 5 1 (.slice (some ⟨(e 0).1, 0, none⟩) n n) n ((List.replicate n (0 : Int)).map (Value.int .u8)) :: boxC pw #[.slice a σ.bs.length c, .bool false] :: D :: R] k []) w) (fun _ => (0, undef)) [1] [0, 0, 1] (fun _ _ => false) hz6 (by kernel_rfl) (by kernel_rfl) (by kernel_rfl) ?_ (show Mem _ _ from hM6) ?_ ?_
     · exact ⟨fun _ _ _ => rfl, fun e e' h => congrArg (fun x : Rv => (.slice (some ⟨x.1, 0, none⟩) n n : Value)) (h 0 (by decide)), fun e e' h => congrArg (fun x : Rv => (.slice (some ⟨x.1, 0, none⟩) n n : Value)) (h 0 (by decide)), trivial⟩
     ·
      refine ⟨?_, ?_, ?_, trivial⟩
      · exact op2 (a := 0) rfl fun e w ρ (hM : Mem _ w) E => res_ok (x_move rfl (E.o 1 _ rfl g1_6)) (goes_still rfl rfl hM)
      ·
       refine op2 (a := 0) rfl fun e w ρ (hM : Mem _ w) E => ?_
       have e23 : ρ (.tmp 23) = .int .i64 (n : Int) := E.d 0 _ 23 rfl rfl rfl
       have h := newRow_mem hM 5 1 n ((List.replicate n (0 : Int)).map (Value.int .u8)) (by simp) (by unfold maxLen; omega)
       refine res_ok (x_makeSlice rfl (e23) (e23) (make_u8 n (by omega) w)) (goes_tick rfl (w.heap.size, undef) rfl ?_)
       show Mem (rowC 5 1 (.slice (some ⟨(upd e 0 (w.heap.size, undef) 0).1, 0, none⟩) n n) n ((List.replicate n (0 : Int)).map (Value.int .u8)) :: boxC pw #[.slice a σ.bs.length c, .bool false] :: D :: R) _
       exact h
      · exact op2 (a := 1) rfl fun e w ρ (hM : Mem _ w) E => res_ok (x_assign rfl (E.d 1 _ 24 rfl rfl rfl)) (goes_still rfl rfl hM)
     ·
      intro e a7 w7 hz7 hd hG hO hM
      have hd7 := hd.trans hd6
      have g0_7 := (hO 0 rfl).trans g0_6
      have g1_7 := (hO 1 rfl).trans g1_6
      have g4_7 : a7.tmps[4]? = some (.slice (some ⟨(e 0).1, 0, none⟩) n n) := hG 2 _ 4 rfl rfl
      have hM7 : Mem (rowC 5 1 (.slice (some ⟨(e 0).1, 0, none⟩) n n) n ((List.replicate n (0 : Int)).map (Value.int .u8)) :: boxC pw #[.slice a σ.bs.length c, .bool false] :: D :: R) w7 := hM
      clear hM hG hO hd
      clear hz6 hd6 hM6 g0_6 g1_6 g4_6
      generalize (e 0).1 = b7_0 at *
      refine then_n ?_
      refine wp_ret ?_
      refine then_r ?_
      refine ret_1 Try.results49 hd7 g4_7 ?_
      have hz := hc1
      rw [hz1_7] at hz
      have hf : rfails σ n := by
       rw [Bool.or_eq_true] at hz
       rcases hz with h | h
       · exact .inl (by have := of_decide_eq_true h; omega)
       · exact .inr h
      refine ⟨_, rfl, ?_⟩
      rw [show rtake σ n = ⟨true, σ.bs⟩ from if_pos hf, show takC D σ n _ = _ from if_pos hf]
      exact rdC_shut (σ := ⟨true, σ.bs⟩) (((hM7.front 0 rfl).front 2 rfl).front 2 rfl) ⟨a, c, rfl, hlc, hR, hac, hin⟩
end Go.Proofs.Ytfcjmpgbohgoeaa
