/- CODEC: the document's reader: texts, tickets, legs. -/
import Derived.Test.YtfcjmpgbohgoeaaCo28
namespace Go.Proofs.Ytfcjmpgbohgoeaa
open Go.RowKit Go.Lib Go.Tk Go.Shelf Go.Vc
set_option linter.unusedVariables false
set_option linter.unusedSimpArgs false
attribute [-go_sem] loadCellsFrom
theorem rtake_by {σ : WS} (h : By σ.bs) (n : Nat) : By (rtake σ n).bs := by
 unfold rtake
 split
 · exact h
 · intro x hx; exact h x (List.mem_of_mem_drop hx)
theorem rtake_len (σ : WS) (n : Nat) : (rtake σ n).bs.length ≤ σ.bs.length := by
 unfold rtake
 split
 · exact Nat.le_refl _
 · show (σ.bs.drop n).length ≤ _; rw [List.length_drop]; omega
theorem rmany_by {σ : WS} (h : By σ.bs) (most : Nat) : By (rmany σ most).2.bs := by
 unfold rmany
 split
 · exact rtake_by h 1
 · exact rtake_by h 1
theorem rmany_len (σ : WS) (most : Nat) : (rmany σ most).2.bs.length ≤ σ.bs.length := by
 unfold rmany
 split
 · exact rtake_len σ 1
 · exact rtake_len σ 1
theorem rmany_le (σ : WS) (most : Nat) : (rmany σ most).1 ≤ most := by
 unfold rmany
 split
 · exact Nat.zero_le _
 · show (rval σ 1).toNat ≤ most; omega
def rtext (σ : WS) : ByteArray × WS := (ofBytes (rbytes (rmany σ 32).2 (rmany σ 32).1), rtake (rmany σ 32).2 (rmany σ 32).1)
def rtick (σ : WS) : TickV × WS := (⟨rval σ 1, rval (rtake σ 1) 8⟩, rtake (rtake σ 1) 8)
def rleg (σ : WS) : LegV × WS := (⟨rval σ 1, rval (rtake σ 1) 2, rval (rtake (rtake σ 1) 2) 4⟩, rtake (rtake (rtake σ 1) 2) 4)
set_option maxRecDepth 100000 in
set_option maxHeartbeats 8000000 in
theorem rtext_at (D : Chunk) (pw : Nat) (σ : WS) (R : List Chunk) (w : World) (hM : Mem (rdC D pw σ :: R) w) (hb : σ.bs.length ≤ 1000000) :
  Calls Try.prog 51 #[.pointer (some ⟨pw, 0, none⟩)] w fun e w' => e = .returned (.string (rtext σ).1) ∧ Mem (rdC D pw (rtext σ).2 :: R) w' := by
 refine enter Try.func51 rfl Try.ntmps51 (Nat.le_of_ble_eq_true rfl) ?_
 intro a0 hz0 hd0 hg0
 have g0_0 : a0.tmps[0]? = some (.pointer (some ⟨pw, 0, none⟩)) := hg0 0 _ rfl
 clear hg0
 have hM0 : Mem (rdC D pw σ :: R) _ := hM
 refine wp_seq ?_
 refine region_seq 8 (fun zz e => (#[.string ByteArray.empty] : Array Value).getD zz undef) (fun k e w => Mem (List.getD [rdC D pw σ :: R] k []) w) (fun _ => (0, undef)) [] [0] (fun _ _ => false) hz0 (by kernel_rfl) (by kernel_rfl) (by kernel_rfl) ?_ (show Mem _ _ from hM0) ?_ ?_
 · exact ⟨fun _ _ _ => rfl, trivial⟩
 ·
  refine ⟨?_, trivial⟩
  · exact op2 (a := 0) rfl fun e w ρ (hM : Mem _ w) E => res_ok (x_assign rfl (E.c _)) (goes_still rfl rfl hM)
 ·
  intro e a1 w1 hz1 hd hG hO hM
  have hd1 := hd.trans hd0
  have g0_1 := (hO 0 rfl).trans g0_0
  have g2_1 : a1.tmps[2]? = some (.string ByteArray.empty) := hG 0 _ 2 rfl rfl
  have hM1 : Mem (rdC D pw σ :: R) w1 := hM
  clear hM hG hO hd
  clear hz0 hd0 hM0 g0_0
  refine then_n ?_
  refine wp_seq ?_
  refine region_seq 8 (fun zz e => (#[.pointer (some ⟨pw, 0, none⟩), .pointer (some ⟨pw, 0, none⟩), .int .i64 ((rmany σ 32).1 : Int), (e 1).2, .string ((rtext σ).1), .string ((rtext σ).1)] : Array Value).getD zz undef) (fun k e w => Mem (List.getD [rdC D pw σ :: R, rdC D pw (rmany σ 32).2 :: R, rdC D pw (rtake (rmany σ 32).2 (rmany σ 32).1) :: takC D (rmany σ 32).2 (rmany σ 32).1 (e 1).2 :: R] k []) w) (fun _ => (0, undef)) [2, 3] [0, 0, 0, 1, 2, 2] (fun _ _ => false) hz1 (by kernel_rfl) (by kernel_rfl) (by kernel_rfl) ?_ (show Mem _ _ from hM1) ?_ ?_
  · exact ⟨fun _ _ _ => rfl, fun _ _ _ => rfl, fun _ _ _ => rfl, fun e e' h => congrArg (fun x : Rv => (x.2 : Value)) (h 1 (by decide)), fun _ _ _ => rfl, fun _ _ _ => rfl, trivial⟩
  ·
   refine ⟨?_, ?_, ?_, ?_, ?_, ?_, trivial⟩
   · exact op2 (a := 0) rfl fun e w ρ (hM : Mem _ w) E => res_ok (x_move rfl (E.o 0 _ rfl g0_1)) (goes_still rfl rfl hM)
   · exact op2 (a := 0) rfl fun e w ρ (hM : Mem _ w) E => res_ok (x_move rfl (E.o 0 _ rfl g0_1)) (goes_still rfl rfl hM)
   ·
    refine op2 (a := 0) rfl fun e w ρ (hM : Mem _ w) E => ?_
    have e4 : ρ (.tmp 4) = .pointer (some ⟨pw, 0, none⟩) := E.d 1 _ 4 rfl rfl rfl
    refine res_in (x_call (args := #[.pointer (some ⟨pw, 0, none⟩), .int .i64 32]) rfl rfl (E.f _) (by simp [e4, E.c]) (by kernel_rfl)) ?_
    refine (rmany_at D pw σ 32 _ _ (hM.front 0 rfl) (by omega) hb).mono ?_
    rintro e' w' ⟨rfl, hm⟩
    exact ⟨_, rfl, goes_tick rfl (0, undef) rfl hm⟩
   ·
    refine op2 (a := 1) rfl fun e w ρ (hM : Mem _ w) E => ?_
    have e3 : ρ (.tmp 3) = .pointer (some ⟨pw, 0, none⟩) := E.d 0 _ 3 rfl rfl rfl
    have e5 : ρ (.tmp 5) = .int .i64 ((rmany σ 32).1 : Int) := E.d 2 _ 5 rfl rfl rfl
    refine res_in (x_call (args := #[.pointer (some ⟨pw, 0, none⟩), .int .i64 ((rmany σ 32).1 : Int)]) rfl rfl (E.f _) (by simp [e3, e5]) (by kernel_rfl)) ?_
    refine (rtake_at D pw (rmany σ 32).2 (rmany σ 32).1 _ _ (hM.front 0 rfl) (by have := rmany_le σ 32; omega) (by have := rmany_len σ 32; omega)).mono ?_
    rintro e' w' ⟨v', rfl, hm⟩
    exact ⟨_, rfl, goes_tick rfl (0, v') rfl hm⟩
   ·
    refine op2 (a := 2) rfl fun e w ρ (hM : Mem _ w) E => ?_
    have e6 : ρ (.tmp 6) = (e 1).2 := E.d 3 _ 6 rfl rfl rfl
    obtain ⟨av, cv, hev, hrd⟩ := tak_reads (D := D) (pw := pw) (σ := (rmany σ 32).2) (τ := rtake (rmany σ 32).2 (rmany σ 32).1) (n := (rmany σ 32).1) hM
    exact res_ok (x_convert rfl (e6.trans hev) (run_ofBytes (xs := rbytes (rmany σ 32).2 (rmany σ 32).1) Try.underlying47 Try.underlying5 Try.underlying9 (rbytes_len _ _) (hrd w hM))) (goes_still rfl rfl hM)
   · exact op2 (a := 2) rfl fun e w ρ (hM : Mem _ w) E => res_ok (x_assign rfl (E.d 4 _ 7 rfl rfl rfl)) (goes_still rfl rfl hM)
  ·
   intro e a2 w2 hz2 hd hG hO hM
   have hd2 := hd.trans hd1
   have g2_2 : a2.tmps[2]? = some (.string ((rtext σ).1)) := hG 5 _ 2 rfl rfl
   have hM2 : Mem (rdC D pw (rtake (rmany σ 32).2 (rmany σ 32).1) :: takC D (rmany σ 32).2 (rmany σ 32).1 (e 1).2 :: R) w2 := hM
   clear hM hG hO hd
   clear hz1 hd1 hM1 g0_1 g2_1
   generalize (e 1).2 = v2_1 at *
   refine then_n ?_
   refine wp_ret ?_
   refine ret_1 Try.results51 hd2 g2_2 ?_
   exact ⟨rfl, ((hM2.erase 1 rfl).front 0 rfl)⟩
set_option maxRecDepth 100000 in
set_option maxHeartbeats 8000000 in
theorem rtick_at (D : Chunk) (pw : Nat) (σ : WS) (R : List Chunk) (w : World) (hM : Mem (rdC D pw σ :: R) w) (hb : σ.bs.length ≤ 1000000) :
  Calls Try.prog 50 #[.pointer (some ⟨pw, 0, none⟩)] w fun e w' => e = .returned (.agg #[.int .u8 (rtick σ).1.c, .int .u64 (rtick σ).1.r]) ∧ Mem (rdC D pw (rtick σ).2 :: R) w' := by
 have hy0 := rdC_by hM
 have hv1 : 0 ≤ rval σ 1 ∧ rval σ 1 < 256 := rval_in hy0 1
 have hv2 : 0 ≤ rval (rtake σ 1) 2 ∧ rval (rtake σ 1) 2 < 65536 := rval_in (rtake_by hy0 1) 2
 have hv3 : 0 ≤ rval (rtake (rtake σ 1) 2) 4 ∧ rval (rtake (rtake σ 1) 2) 4 < 4294967296 := rval_in (rtake_by (rtake_by hy0 1) 2) 4
 refine enter Try.func50 rfl Try.ntmps50 (Nat.le_of_ble_eq_true rfl) ?_
 intro a0 hz0 hd0 hg0
 have g0_0 : a0.tmps[0]? = some (.pointer (some ⟨pw, 0, none⟩)) := hg0 0 _ rfl
 clear hg0
 have hM0 : Mem (rdC D pw σ :: R) _ := hM
 refine wp_seq ?_
 refine region_seq 11 (fun zz e => (#[.pointer (some ⟨(e 0).1, 0, none⟩)] : Array Value).getD zz undef) (fun k e w => Mem (List.getD [rdC D pw σ :: R, boxC ((e 0).1) #[.int .u8 0, .int .u64 0] :: rdC D pw σ :: R] k []) w) (fun _ => (0, undef)) [0] [0] (fun _ _ => false) hz0 (by kernel_rfl) (by kernel_rfl) (by kernel_rfl) ?_ (show Mem _ _ from hM0) ?_ ?_
 · exact ⟨fun e e' h => congrArg (fun x : Rv => (.pointer (some ⟨x.1, 0, none⟩) : Value)) (h 0 (by decide)), trivial⟩
 ·
  refine ⟨?_, trivial⟩
  ·
   refine op2 (a := 0) rfl fun e w ρ (hM : Mem _ w) E => ?_
   exact res_ok (x_alloc (z := .agg #[.int .u8 0, .int .u64 0]) rfl (by kernel_rfl)) (goes_tick rfl (w.heap.size, undef) rfl (hM.alloc _ _))
 ·
  intro e a1 w1 hz1 hd hG hO hM
  have hd1 := hd.trans hd0
  have g0_1 := (hO 0 rfl).trans g0_0
  have g2_1 : a1.tmps[2]? = some (.pointer (some ⟨(e 0).1, 0, none⟩)) := hG 0 _ 2 rfl rfl
  have hM1 : Mem (boxC ((e 0).1) #[.int .u8 0, .int .u64 0] :: rdC D pw σ :: R) w1 := hM
  clear hM hG hO hd
  clear hz0 hd0 hM0 g0_0
  generalize (e 0).1 = b1_0 at *
  refine then_n ?_
  refine wp_seq ?_
  refine region_seq 11 (fun zz e => (#[.pointer (some ⟨pw, 0, none⟩), .int .u64 (rval σ 1), .int .u8 (rval σ 1), .int .u8 (rval σ 1)] : Array Value).getD zz undef) (fun k e w => Mem (List.getD [boxC b1_0 #[.int .u8 0, .int .u64 0] :: rdC D pw σ :: R, rdC D pw (rtake σ 1) :: boxC b1_0 #[.int .u8 0, .int .u64 0] :: R] k []) w) (fun _ => (0, undef)) [1] [0, 0, 1, 1] (fun _ _ => false) hz1 (by kernel_rfl) (by kernel_rfl) (by kernel_rfl) ?_ (show Mem _ _ from hM1) ?_ ?_
  · exact ⟨fun _ _ _ => rfl, fun _ _ _ => rfl, fun _ _ _ => rfl, fun _ _ _ => rfl, trivial⟩
  ·
   refine ⟨?_, ?_, ?_, ?_, trivial⟩
   · exact op2 (a := 0) rfl fun e w ρ (hM : Mem _ w) E => res_ok (x_move rfl (E.o 0 _ rfl g0_1)) (goes_still rfl rfl hM)
   ·
    refine op2 (a := 0) rfl fun e w ρ (hM : Mem _ w) E => ?_
    have e4 : ρ (.tmp 4) = .pointer (some ⟨pw, 0, none⟩) := E.d 0 _ 4 rfl rfl rfl
    refine res_in (x_call (args := #[.pointer (some ⟨pw, 0, none⟩), .int .i64 1]) rfl rfl (E.f _) (by simp [e4, E.c]) (by kernel_rfl)) ?_
    refine (rvalue_at D pw σ 1 _ _ (hM.front 1 rfl) (by omega) (by have := rtake_len σ 1; have := rtake_len (rtake σ 1) 2; omega)).mono ?_
    rintro e' w' ⟨rfl, hm⟩
    exact ⟨_, rfl, goes_tick rfl (0, undef) rfl hm⟩
   · exact op2 (a := 1) rfl fun e w ρ (hM : Mem _ w) E => res_ok (x_conv rfl (E.d 1 _ 5 rfl rfl rfl) (by kernel_rfl) (by kernel_rfl) (wr_u8 (by omega))) (goes_still rfl rfl hM)
   · exact op2 (a := 1) rfl fun e w ρ (hM : Mem _ w) E => res_ok (x_assign rfl (E.d 2 _ 6 rfl rfl rfl)) (goes_still rfl rfl hM)
  ·
   intro e a2 w2 hz2 hd hG hO hM
   have hd2 := hd.trans hd1
   have g0_2 := (hO 0 rfl).trans g0_1
   have g2_2 := (hO 2 rfl).trans g2_1
   have g3_2 : a2.tmps[3]? = some (.int .u8 (rval σ 1)) := hG 3 _ 3 rfl rfl
   have hM2 : Mem (rdC D pw (rtake σ 1) :: boxC b1_0 #[.int .u8 0, .int .u64 0] :: R) w2 := hM
   clear hM hG hO hd
   clear hz1 hd1 hM1 g0_1 g2_1
   refine then_n ?_
   refine wp_seq ?_
   refine region_seq 11 (fun zz e => (#[.int .u8 (rval σ 1), .pointer (some ⟨pw, 0, none⟩), .int .u64 (rval (rtake σ 1) 8), .agg #[.int .u8 (rval σ 1), .int .u64 (rval (rtake σ 1) 8)], undef] : Array Value).getD zz undef) (fun k e w => Mem (List.getD [rdC D pw (rtake σ 1) :: boxC b1_0 #[.int .u8 0, .int .u64 0] :: R, rdC D pw (rtake (rtake σ 1) 8) :: boxC b1_0 #[.int .u8 0, .int .u64 0] :: R, rdC D pw (rtake (rtake σ 1) 8) :: boxC b1_0 #[.int .u8 (rval σ 1), .int .u64 (rval (rtake σ 1) 8)] :: R] k []) w) (fun _ => (0, undef)) [2, 4] [0, 0, 0, 1, 1] (fun _ _ => false) hz2 (by kernel_rfl) (by kernel_rfl) (by kernel_rfl) ?_ (show Mem _ _ from hM2) ?_ ?_
   · exact ⟨fun _ _ _ => rfl, fun _ _ _ => rfl, fun _ _ _ => rfl, fun _ _ _ => rfl, fun _ _ _ => rfl, trivial⟩
   ·
    refine ⟨?_, ?_, ?_, ?_, ?_, trivial⟩
    · exact op2 (a := 0) rfl fun e w ρ (hM : Mem _ w) E => res_ok (x_move rfl (E.o 3 _ rfl g3_2)) (goes_still rfl rfl hM)
    · exact op2 (a := 0) rfl fun e w ρ (hM : Mem _ w) E => res_ok (x_move rfl (E.o 0 _ rfl g0_2)) (goes_still rfl rfl hM)
    ·
     refine op2 (a := 0) rfl fun e w ρ (hM : Mem _ w) E => ?_
     have e8 : ρ (.tmp 8) = .pointer (some ⟨pw, 0, none⟩) := E.d 1 _ 8 rfl rfl rfl
     refine res_in (x_call (args := #[.pointer (some ⟨pw, 0, none⟩), .int .i64 8]) rfl rfl (E.f _) (by simp [e8, E.c]) (by kernel_rfl)) ?_
     refine (rvalue_at D pw (rtake σ 1) 8 _ _ (hM.front 0 rfl) (by omega) (by have := rtake_len σ 1; have := rtake_len (rtake σ 1) 2; omega)).mono ?_
     rintro e' w' ⟨rfl, hm⟩
     exact ⟨_, rfl, goes_tick rfl (0, undef) rfl hm⟩
    ·
     refine op2 (a := 1) rfl fun e w ρ (hM : Mem _ w) E => ?_
     have e7 : ρ (.tmp 7) = .int .u8 (rval σ 1) := E.d 0 _ 7 rfl rfl rfl
     have e9 : ρ (.tmp 9) = .int .u64 (rval (rtake σ 1) 8) := E.d 2 _ 9 rfl rfl rfl
     exact res_ok (v := .agg #[.int .u8 (rval σ 1), .int .u64 (rval (rtake σ 1) 8)]) (by simp [go_sem, execOp, Instr.build, Instr.fill, E.c, E.f, e7, e9] <;> rfl) (goes_still rfl rfl hM)
    ·
     refine op2 (a := 1) rfl fun e w ρ (hM : Mem _ w) E => ?_
     have e2 := E.o 2 _ rfl g2_2
     have e10 := E.d 3 _ 10 rfl rfl rfl
     obtain ⟨w', hr, hm⟩ := Mem.store (P := Try.prog) hM 1 rfl 24 0 (.agg #[.int .u8 (rval σ 1), .int .u64 (rval (rtake σ 1) 8)]) [.int .u8 (rval σ 1), .int .u64 (rval (rtake σ 1) 8)] rfl (by kernel_rfl) (Nat.le_of_ble_eq_true rfl) (by rfl)
     exact res_st (x_store rfl (e2) (e10) hr) (goes_tick rfl (0, undef) rfl hm)
   ·
    intro e a3 w3 hz3 hd hG hO hM
    have hd3 := hd.trans hd2
    have g2_3 := (hO 2 rfl).trans g2_2
    have hM3 : Mem (rdC D pw (rtake (rtake σ 1) 8) :: boxC b1_0 #[.int .u8 (rval σ 1), .int .u64 (rval (rtake σ 1) 8)] :: R) w3 := hM
    clear hM hG hO hd
    clear hz2 hd2 hM2 g0_2 g2_2 g3_2
    refine then_n ?_
    refine wp_ret ?_
    refine ret_c Try.results50 hd3 g2_3 (by kernel_rfl) (load_part (hM3.box 1 rfl) [.int .u8 (rval σ 1), .int .u64 (rval (rtake σ 1) 8)] rfl (Nat.le_of_ble_eq_true rfl) rfl) ?_
    exact ⟨rfl, ((hM3.erase 1 rfl).front 0 rfl)⟩
set_option maxRecDepth 100000 in
set_option maxHeartbeats 8000000 in
theorem rleg_at (D : Chunk) (pw : Nat) (σ : WS) (R : List Chunk) (w : World) (hM : Mem (rdC D pw σ :: R) w) (hb : σ.bs.length ≤ 1000000) :
  Calls Try.prog 53 #[.pointer (some ⟨pw, 0, none⟩)] w fun e w' => e = .returned (.agg #[.int .u8 (rleg σ).1.c, .int .u16 (rleg σ).1.f, .int .u32 (rleg σ).1.x]) ∧ Mem (rdC D pw (rleg σ).2 :: R) w' := by
 have hy0 := rdC_by hM
 have hv1 : 0 ≤ rval σ 1 ∧ rval σ 1 < 256 := rval_in hy0 1
 have hv2 : 0 ≤ rval (rtake σ 1) 2 ∧ rval (rtake σ 1) 2 < 65536 := rval_in (rtake_by hy0 1) 2
 have hv3 : 0 ≤ rval (rtake (rtake σ 1) 2) 4 ∧ rval (rtake (rtake σ 1) 2) 4 < 4294967296 := rval_in (rtake_by (rtake_by hy0 1) 2) 4
 refine enter Try.func53 rfl Try.ntmps53 (Nat.le_of_ble_eq_true rfl) ?_
 intro a0 hz0 hd0 hg0
 have g0_0 : a0.tmps[0]? = some (.pointer (some ⟨pw, 0, none⟩)) := hg0 0 _ rfl
 clear hg0
 have hM0 : Mem (rdC D pw σ :: R) _ := hM
 refine wp_seq ?_
 refine region_seq 17 (fun zz e => (#[.pointer (some ⟨(e 0).1, 0, none⟩)] : Array Value).getD zz undef) (fun k e w => Mem (List.getD [rdC D pw σ :: R, boxC ((e 0).1) #[.int .u8 0, .int .u16 0, .int .u32 0] :: rdC D pw σ :: R] k []) w) (fun _ => (0, undef)) [0] [0] (fun _ _ => false) hz0 (by kernel_rfl) (by kernel_rfl) (by kernel_rfl) ?_ (show Mem _ _ from hM0) ?_ ?_
 · exact ⟨fun e e' h => congrArg (fun x : Rv => (.pointer (some ⟨x.1, 0, none⟩) : Value)) (h 0 (by decide)), trivial⟩
 ·
  refine ⟨?_, trivial⟩
  ·
   refine op2 (a := 0) rfl fun e w ρ (hM : Mem _ w) E => ?_
   exact res_ok (x_alloc (z := .agg #[.int .u8 0, .int .u16 0, .int .u32 0]) rfl (by kernel_rfl)) (goes_tick rfl (w.heap.size, undef) rfl (hM.alloc _ _))
 ·
  intro e a1 w1 hz1 hd hG hO hM
  have hd1 := hd.trans hd0
  have g0_1 := (hO 0 rfl).trans g0_0
  have g2_1 : a1.tmps[2]? = some (.pointer (some ⟨(e 0).1, 0, none⟩)) := hG 0 _ 2 rfl rfl
  have hM1 : Mem (boxC ((e 0).1) #[.int .u8 0, .int .u16 0, .int .u32 0] :: rdC D pw σ :: R) w1 := hM
  clear hM hG hO hd
  clear hz0 hd0 hM0 g0_0
  generalize (e 0).1 = b1_0 at *
  refine then_n ?_
  refine wp_seq ?_
  refine region_seq 17 (fun zz e => (#[.pointer (some ⟨pw, 0, none⟩), .int .u64 (rval σ 1), .int .u8 (rval σ 1), .int .u8 (rval σ 1)] : Array Value).getD zz undef) (fun k e w => Mem (List.getD [boxC b1_0 #[.int .u8 0, .int .u16 0, .int .u32 0] :: rdC D pw σ :: R, rdC D pw (rtake σ 1) :: boxC b1_0 #[.int .u8 0, .int .u16 0, .int .u32 0] :: R] k []) w) (fun _ => (0, undef)) [1] [0, 0, 1, 1] (fun _ _ => false) hz1 (by kernel_rfl) (by kernel_rfl) (by kernel_rfl) ?_ (show Mem _ _ from hM1) ?_ ?_
  · exact ⟨fun _ _ _ => rfl, fun _ _ _ => rfl, fun _ _ _ => rfl, fun _ _ _ => rfl, trivial⟩
  ·
   refine ⟨?_, ?_, ?_, ?_, trivial⟩
   · exact op2 (a := 0) rfl fun e w ρ (hM : Mem _ w) E => res_ok (x_move rfl (E.o 0 _ rfl g0_1)) (goes_still rfl rfl hM)
   ·
    refine op2 (a := 0) rfl fun e w ρ (hM : Mem _ w) E => ?_
    have e5 : ρ (.tmp 5) = .pointer (some ⟨pw, 0, none⟩) := E.d 0 _ 5 rfl rfl rfl
    refine res_in (x_call (args := #[.pointer (some ⟨pw, 0, none⟩), .int .i64 1]) rfl rfl (E.f _) (by simp [e5, E.c]) (by kernel_rfl)) ?_
    refine (rvalue_at D pw σ 1 _ _ (hM.front 1 rfl) (by omega) (by have := rtake_len σ 1; have := rtake_len (rtake σ 1) 2; omega)).mono ?_
    rintro e' w' ⟨rfl, hm⟩
    exact ⟨_, rfl, goes_tick rfl (0, undef) rfl hm⟩
   · exact op2 (a := 1) rfl fun e w ρ (hM : Mem _ w) E => res_ok (x_conv rfl (E.d 1 _ 6 rfl rfl rfl) (by kernel_rfl) (by kernel_rfl) (wr_u8 (by omega))) (goes_still rfl rfl hM)
   · exact op2 (a := 1) rfl fun e w ρ (hM : Mem _ w) E => res_ok (x_assign rfl (E.d 2 _ 7 rfl rfl rfl)) (goes_still rfl rfl hM)
  ·
   intro e a2 w2 hz2 hd hG hO hM
   have hd2 := hd.trans hd1
   have g0_2 := (hO 0 rfl).trans g0_1
   have g2_2 := (hO 2 rfl).trans g2_1
   have g3_2 : a2.tmps[3]? = some (.int .u8 (rval σ 1)) := hG 3 _ 3 rfl rfl
   have hM2 : Mem (rdC D pw (rtake σ 1) :: boxC b1_0 #[.int .u8 0, .int .u16 0, .int .u32 0] :: R) w2 := hM
   clear hM hG hO hd
   clear hz1 hd1 hM1 g0_1 g2_1
   refine then_n ?_
   refine wp_seq ?_
   refine region_seq 17 (fun zz e => (#[.pointer (some ⟨pw, 0, none⟩), .int .u64 (rval (rtake σ 1) 2), .int .u16 (rval (rtake σ 1) 2), .int .u16 (rval (rtake σ 1) 2)] : Array Value).getD zz undef) (fun k e w => Mem (List.getD [rdC D pw (rtake σ 1) :: boxC b1_0 #[.int .u8 0, .int .u16 0, .int .u32 0] :: R, rdC D pw (rtake (rtake σ 1) 2) :: boxC b1_0 #[.int .u8 0, .int .u16 0, .int .u32 0] :: R] k []) w) (fun _ => (0, undef)) [1] [0, 0, 1, 1] (fun _ _ => false) hz2 (by kernel_rfl) (by kernel_rfl) (by kernel_rfl) ?_ (show Mem _ _ from hM2) ?_ ?_
   · exact ⟨fun _ _ _ => rfl, fun _ _ _ => rfl, fun _ _ _ => rfl, fun _ _ _ => rfl, trivial⟩
   ·
    refine ⟨?_, ?_, ?_, ?_, trivial⟩
    · exact op2 (a := 0) rfl fun e w ρ (hM : Mem _ w) E => res_ok (x_move rfl (E.o 0 _ rfl g0_2)) (goes_still rfl rfl hM)
    ·
     refine op2 (a := 0) rfl fun e w ρ (hM : Mem _ w) E => ?_
     have e8 : ρ (.tmp 8) = .pointer (some ⟨pw, 0, none⟩) := E.d 0 _ 8 rfl rfl rfl
     refine res_in (x_call (args := #[.pointer (some ⟨pw, 0, none⟩), .int .i64 2]) rfl rfl (E.f _) (by simp [e8, E.c]) (by kernel_rfl)) ?_
     refine (rvalue_at D pw (rtake σ 1) 2 _ _ (hM.front 0 rfl) (by omega) (by have := rtake_len σ 1; have := rtake_len (rtake σ 1) 2; omega)).mono ?_
     rintro e' w' ⟨rfl, hm⟩
     exact ⟨_, rfl, goes_tick rfl (0, undef) rfl hm⟩
    · exact op2 (a := 1) rfl fun e w ρ (hM : Mem _ w) E => res_ok (x_conv rfl (E.d 1 _ 9 rfl rfl rfl) (by kernel_rfl) (by kernel_rfl) (wr_u16 (by omega))) (goes_still rfl rfl hM)
    · exact op2 (a := 1) rfl fun e w ρ (hM : Mem _ w) E => res_ok (x_assign rfl (E.d 2 _ 10 rfl rfl rfl)) (goes_still rfl rfl hM)
   ·
    intro e a3 w3 hz3 hd hG hO hM
    have hd3 := hd.trans hd2
    have g0_3 := (hO 0 rfl).trans g0_2
    have g2_3 := (hO 2 rfl).trans g2_2
    have g3_3 := (hO 3 rfl).trans g3_2
    have g4_3 : a3.tmps[4]? = some (.int .u16 (rval (rtake σ 1) 2)) := hG 3 _ 4 rfl rfl
    have hM3 : Mem (rdC D pw (rtake (rtake σ 1) 2) :: boxC b1_0 #[.int .u8 0, .int .u16 0, .int .u32 0] :: R) w3 := hM
    clear hM hG hO hd
    clear hz2 hd2 hM2 g0_2 g2_2 g3_2
    refine then_n ?_
    refine wp_seq ?_
    refine region_seq 17 (fun zz e => (#[.int .u8 (rval σ 1), .int .u16 (rval (rtake σ 1) 2), .pointer (some ⟨pw, 0, none⟩), .int .u64 (rval (rtake (rtake σ 1) 2) 4), .int .u32 (rval (rtake (rtake σ 1) 2) 4), .agg #[.int .u8 (rval σ 1), .int .u16 (rval (rtake σ 1) 2), .int .u32 (rval (rtake (rtake σ 1) 2) 4)], undef] : Array Value).getD zz undef) (fun k e w => Mem (List.getD [rdC D pw (rtake (rtake σ 1) 2) :: boxC b1_0 #[.int .u8 0, .int .u16 0, .int .u32 0] :: R, rdC D pw (rtake (rtake (rtake σ 1) 2) 4) :: boxC b1_0 #[.int .u8 0, .int .u16 0, .int .u32 0] :: R, rdC D pw (rtake (rtake (rtake σ 1) 2) 4) :: boxC b1_0 #[.int .u8 (rval σ 1), .int .u16 (rval (rtake σ 1) 2), .int .u32 (rval (rtake (rtake σ 1) 2) 4)] :: R] k []) w) (fun _ => (0, undef)) [3, 6] [0, 0, 0, 0, 1, 1, 1] (fun _ _ => false) hz3 (by kernel_rfl) (by kernel_rfl) (by kernel_rfl) ?_ (show Mem _ _ from hM3) ?_ ?_
    · exact ⟨fun _ _ _ => rfl, fun _ _ _ => rfl, fun _ _ _ => rfl, fun _ _ _ => rfl, fun _ _ _ => rfl, fun _ _ _ => rfl, fun _ _ _ => rfl, trivial⟩
    ·
     refine ⟨?_, ?_, ?_, ?_, ?_, ?_, ?_, trivial⟩
     · exact op2 (a := 0) rfl fun e w ρ (hM : Mem _ w) E => res_ok (x_move rfl (E.o 3 _ rfl g3_3)) (goes_still rfl rfl hM)
     · exact op2 (a := 0) rfl fun e w ρ (hM : Mem _ w) E => res_ok (x_move rfl (E.o 4 _ rfl g4_3)) (goes_still rfl rfl hM)
     · exact op2 (a := 0) rfl fun e w ρ (hM : Mem _ w) E => res_ok (x_move rfl (E.o 0 _ rfl g0_3)) (goes_still rfl rfl hM)
     ·
      refine op2 (a := 0) rfl fun e w ρ (hM : Mem _ w) E => ?_
      have e13 : ρ (.tmp 13) = .pointer (some ⟨pw, 0, none⟩) := E.d 2 _ 13 rfl rfl rfl
      refine res_in (x_call (args := #[.pointer (some ⟨pw, 0, none⟩), .int .i64 4]) rfl rfl (E.f _) (by simp [e13, E.c]) (by kernel_rfl)) ?_
      refine (rvalue_at D pw (rtake (rtake σ 1) 2) 4 _ _ (hM.front 0 rfl) (by omega) (by have := rtake_len σ 1; have := rtake_len (rtake σ 1) 2; omega)).mono ?_
      rintro e' w' ⟨rfl, hm⟩
      exact ⟨_, rfl, goes_tick rfl (0, undef) rfl hm⟩
     · exact op2 (a := 1) rfl fun e w ρ (hM : Mem _ w) E => res_ok (x_conv rfl (E.d 3 _ 14 rfl rfl rfl) (by kernel_rfl) (by kernel_rfl) (wr_u32 (by omega))) (goes_still rfl rfl hM)
     ·
      refine op2 (a := 1) rfl fun e w ρ (hM : Mem _ w) E => ?_
      have e11 : ρ (.tmp 11) = .int .u8 (rval σ 1) := E.d 0 _ 11 rfl rfl rfl
      have e12 : ρ (.tmp 12) = .int .u16 (rval (rtake σ 1) 2) := E.d 1 _ 12 rfl rfl rfl
      have e15 : ρ (.tmp 15) = .int .u32 (rval (rtake (rtake σ 1) 2) 4) := E.d 4 _ 15 rfl rfl rfl
      exact res_ok (v := .agg #[.int .u8 (rval σ 1), .int .u16 (rval (rtake σ 1) 2), .int .u32 (rval (rtake (rtake σ 1) 2) 4)]) (by simp [go_sem, execOp, Instr.build, Instr.fill, E.c, E.f, e11, e12, e15] <;> rfl) (goes_still rfl rfl hM)
     ·
      refine op2 (a := 1) rfl fun e w ρ (hM : Mem _ w) E => ?_
      have e2 := E.o 2 _ rfl g2_3
      have e16 := E.d 5 _ 16 rfl rfl rfl
      obtain ⟨w', hr, hm⟩ := Mem.store (P := Try.prog) hM 1 rfl 36 0 (.agg #[.int .u8 (rval σ 1), .int .u16 (rval (rtake σ 1) 2), .int .u32 (rval (rtake (rtake σ 1) 2) 4)]) [.int .u8 (rval σ 1), .int .u16 (rval (rtake σ 1) 2), .int .u32 (rval (rtake (rtake σ 1) 2) 4)] rfl (by kernel_rfl) (Nat.le_of_ble_eq_true rfl) (by rfl)
      exact res_st (x_store rfl (e2) (e16) hr) (goes_tick rfl (0, undef) rfl hm)
    ·
     intro e a4 w4 hz4 hd hG hO hM
     have hd4 := hd.trans hd3
     have g2_4 := (hO 2 rfl).trans g2_3
     have hM4 : Mem (rdC D pw (rtake (rtake (rtake σ 1) 2) 4) :: boxC b1_0 #[.int .u8 (rval σ 1), .int .u16 (rval (rtake σ 1) 2), .int .u32 (rval (rtake (rtake σ 1) 2) 4)] :: R) w4 := hM
     clear hM hG hO hd
     clear hz3 hd3 hM3 g0_3 g2_3 g3_3 g4_3
     refine then_n ?_
     refine wp_ret ?_
     refine ret_c Try.results53 hd4 g2_4 (by kernel_rfl) (load_part (hM4.box 1 rfl) [.int .u8 (rval σ 1), .int .u16 (rval (rtake σ 1) 2), .int .u32 (rval (rtake (rtake σ 1) 2) 4)] rfl (Nat.le_of_ble_eq_true rfl) rfl) ?_
     exact ⟨rfl, ((hM4.erase 1 rfl).front 0 rfl)⟩
end Go.Proofs.Ytfcjmpgbohgoeaa
