/- CODEC: the document's reader: values, counts. -/
import Derived.Test.YtfcjmpgbohgoeaaCo27
namespace Go.Proofs.Ytfcjmpgbohgoeaa
open Go.RowKit Go.Lib Go.Tk Go.Shelf Go.Vc
set_option linter.unusedVariables false
set_option linter.unusedSimpArgs false
attribute [-go_sem] loadCellsFrom
theorem rbytes_in {σ : WS} (h : By σ.bs) (n : Nat) : By (rbytes σ n) := by
 unfold rbytes
 split
 · intro x hx; rw [(List.mem_replicate.1 hx).2]; exact ⟨Int.le_refl _, by decide⟩
 · intro x hx; exact h x (List.mem_of_mem_take hx)
def rval (σ : WS) (n : Nat) : Int := valOf (rbytes σ n)
theorem rdC_by {D : Chunk} {pw : Nat} {σ : WS} {R : List Chunk} {w : World} (h : Mem (rdC D pw σ :: R) w) : By σ.bs := by
 obtain ⟨a, c, -, -, -, -, hin⟩ := rdC_open h
 exact hin
theorem rval_in {σ : WS} (h : By σ.bs) (n : Nat) : 0 ≤ rval σ n ∧ rval σ n < 256 ^ n := valOf_in n _ (rbytes_len σ n) (rbytes_in h n)
def rmany (σ : WS) (most : Nat) : Nat × WS := if rval σ 1 > most then (0, ⟨true, (rtake σ 1).bs⟩) else ((rval σ 1).toNat, rtake σ 1)
set_option maxRecDepth 100000 in
set_option maxHeartbeats 8000000 in
theorem rvalue_at (D : Chunk) (pw : Nat) (σ : WS) (n : Nat) (R : List Chunk) (w : World) (hM : Mem (rdC D pw σ :: R) w) (hn : n ≤ 8) (hb : σ.bs.length ≤ 1000000) :
  Calls Try.prog 33 #[.pointer (some ⟨pw, 0, none⟩), .int .i64 n] w fun e w' => e = .returned (.int .u64 (rval σ n)) ∧ Mem (rdC D pw (rtake σ n) :: R) w' := by
 have hby := rdC_by hM
 refine enter Try.func33 rfl Try.ntmps33 (Nat.le_of_ble_eq_true rfl) ?_
 intro a0 hz0 hd0 hg0
 have g0_0 : a0.tmps[0]? = some (.pointer (some ⟨pw, 0, none⟩)) := hg0 0 _ rfl
 have g1_0 : a0.tmps[1]? = some (.int .i64 (n : Int)) := hg0 1 _ rfl
 clear hg0
 have hM0 : Mem (rdC D pw σ :: R) _ := hM
 refine wp_seq ?_
 refine region_seq 9 (fun zz e => (#[.int .u64 0] : Array Value).getD zz undef) (fun k e w => Mem (List.getD [rdC D pw σ :: R] k []) w) (fun _ => (0, undef)) [] [0] (fun _ _ => false) hz0 (by kernel_rfl) (by kernel_rfl) (by kernel_rfl) ?_ (show Mem _ _ from hM0) ?_ ?_
 · exact ⟨fun _ _ _ => rfl, trivial⟩
 ·
  refine ⟨?_, trivial⟩
  · exact op2 (a := 0) rfl fun e w ρ (hM : Mem _ w) E => res_ok (x_assign rfl (E.c _)) (goes_still rfl rfl hM)
 ·
  intro e a1 w1 hz1 hd hG hO hM
  have hd1 := hd.trans hd0
  have g0_1 := (hO 0 rfl).trans g0_0
  have g1_1 := (hO 1 rfl).trans g1_0
  have g4_1 : a1.tmps[4]? = some (.int .u64 0) := hG 0 _ 4 rfl rfl
  have hM1 : Mem (rdC D pw σ :: R) w1 := hM
  clear hM hG hO hd
  clear hz0 hd0 hM0 g0_0 g1_0
  refine then_n ?_
  refine wp_seq ?_
  refine region_seq 9 (fun zz e => (#[.pointer (some ⟨pw, 0, none⟩), .int .i64 (n : Int), (e 0).2, .int .u64 (rval σ n), .int .u64 (rval σ n)] : Array Value).getD zz undef) (fun k e w => Mem (List.getD [rdC D pw σ :: R, rdC D pw (rtake σ n) :: takC D σ n (e 0).2 :: R] k []) w) (fun _ => (0, undef)) [2] [0, 0, 0, 1, 1] (fun _ _ => false) hz1 (by kernel_rfl) (by kernel_rfl) (by kernel_rfl) ?_ (show Mem _ _ from hM1) ?_ ?_
  · exact ⟨fun _ _ _ => rfl, fun _ _ _ => rfl, fun e e' h => congrArg (fun x : Rv => (x.2 : Value)) (h 0 (by decide)), fun _ _ _ => rfl, fun _ _ _ => rfl, trivial⟩
  ·
   refine ⟨?_, ?_, ?_, ?_, ?_, trivial⟩
   · exact op2 (a := 0) rfl fun e w ρ (hM : Mem _ w) E => res_ok (x_move rfl (E.o 0 _ rfl g0_1)) (goes_still rfl rfl hM)
   · exact op2 (a := 0) rfl fun e w ρ (hM : Mem _ w) E => res_ok (x_move rfl (E.o 1 _ rfl g1_1)) (goes_still rfl rfl hM)
   ·
    refine op2 (a := 0) rfl fun e w ρ (hM : Mem _ w) E => ?_
    have e5 : ρ (.tmp 5) = .pointer (some ⟨pw, 0, none⟩) := E.d 0 _ 5 rfl rfl rfl
    have e6 : ρ (.tmp 6) = .int .i64 (n : Int) := E.d 1 _ 6 rfl rfl rfl
    refine res_in (x_call (args := #[.pointer (some ⟨pw, 0, none⟩), .int .i64 (n : Int)]) rfl rfl (E.f _) (by simp [e5, e6]) (by kernel_rfl)) ?_
    refine (rtake_at D pw σ n _ _ (hM.front 0 rfl) (by omega) hb).mono ?_
    rintro e' w' ⟨v', rfl, hm⟩
    exact ⟨_, rfl, goes_tick rfl (0, v') rfl hm⟩
   ·
    refine op2 (a := 1) rfl fun e w ρ (hM : Mem _ w) E => ?_
    have e7 : ρ (.tmp 7) = (e 0).2 := E.d 2 _ 7 rfl rfl rfl
    refine res_in (x_call (args := #[(e 0).2]) rfl rfl (E.f _) (by simp [e7]) (by kernel_rfl)) ?_
    obtain ⟨av, cv, hev, hrd⟩ := tak_reads (D := D) (pw := pw) (σ := σ) (τ := rtake σ n) (n := n) hM
    rw [hev, show Value.slice av n cv = Value.slice av (rbytes σ n).length cv from by rw [rbytes_len]]
    refine (value_at av cv (rbytes σ n) _ _ hM hrd (rbytes_in hby n) (by rw [rbytes_len]; omega)).mono ?_
    rintro e' w' ⟨rfl, hm⟩
    exact ⟨_, rfl, goes_still rfl rfl (hm)⟩
   · exact op2 (a := 1) rfl fun e w ρ (hM : Mem _ w) E => res_ok (x_assign rfl (E.d 3 _ 8 rfl rfl rfl)) (goes_still rfl rfl hM)
  ·
   intro e a2 w2 hz2 hd hG hO hM
   have hd2 := hd.trans hd1
   have g4_2 : a2.tmps[4]? = some (.int .u64 (rval σ n)) := hG 4 _ 4 rfl rfl
   have hM2 : Mem (rdC D pw (rtake σ n) :: takC D σ n (e 0).2 :: R) w2 := hM
   clear hM hG hO hd
   clear hz1 hd1 hM1 g0_1 g1_1 g4_1
   generalize (e 0).2 = v2_0 at *
   refine then_n ?_
   refine wp_ret ?_
   refine ret_1 Try.results33 hd2 g4_2 ?_
   exact ⟨rfl, ((hM2.erase 1 rfl).front 0 rfl)⟩
set_option maxRecDepth 100000 in
set_option maxHeartbeats 8000000 in
theorem rmany_at (D : Chunk) (pw : Nat) (σ : WS) (most : Nat) (R : List Chunk) (w : World) (hM : Mem (rdC D pw σ :: R) w) (hm : most ≤ 40) (hb : σ.bs.length ≤ 1000000) :
  Calls Try.prog 52 #[.pointer (some ⟨pw, 0, none⟩), .int .i64 most] w fun e w' => e = .returned (.int .i64 ((rmany σ most).1 : Int)) ∧ Mem (rdC D pw (rmany σ most).2 :: R) w' := by
 have hv := rval_in (rdC_by hM) 1
 have hv2 : rval σ 1 < 256 := hv.2
 refine enter Try.func52 rfl Try.ntmps52 (Nat.le_of_ble_eq_true rfl) ?_
 intro a0 hz0 hd0 hg0
 have g0_0 : a0.tmps[0]? = some (.pointer (some ⟨pw, 0, none⟩)) := hg0 0 _ rfl
 have g1_0 : a0.tmps[1]? = some (.int .i64 (most : Int)) := hg0 1 _ rfl
 clear hg0
 have hM0 : Mem (rdC D pw σ :: R) _ := hM
 refine wp_seq ?_
 refine region_seq 16 (fun zz e => (#[.int .i64 0] : Array Value).getD zz undef) (fun k e w => Mem (List.getD [rdC D pw σ :: R] k []) w) (fun _ => (0, undef)) [] [0] (fun _ _ => false) hz0 (by kernel_rfl) (by kernel_rfl) (by kernel_rfl) ?_ (show Mem _ _ from hM0) ?_ ?_
 · exact ⟨fun _ _ _ => rfl, trivial⟩
 ·
  refine ⟨?_, trivial⟩
  · exact op2 (a := 0) rfl fun e w ρ (hM : Mem _ w) E => res_ok (x_assign rfl (E.c _)) (goes_still rfl rfl hM)
 ·
  intro e a1 w1 hz1 hd hG hO hM
  have hd1 := hd.trans hd0
  have g0_1 := (hO 0 rfl).trans g0_0
  have g1_1 := (hO 1 rfl).trans g1_0
  have g4_1 : a1.tmps[4]? = some (.int .i64 0) := hG 0 _ 4 rfl rfl
  have hM1 : Mem (rdC D pw σ :: R) w1 := hM
  clear hM hG hO hd
  clear hz0 hd0 hM0 g0_0 g1_0
  refine then_n ?_
  refine wp_seq ?_
  refine region_seq 16 (fun zz e => (#[.pointer (some ⟨pw, 0, none⟩), .int .u64 (rval σ 1), .int .i64 (rval σ 1), .int .i64 (rval σ 1)] : Array Value).getD zz undef) (fun k e w => Mem (List.getD [rdC D pw σ :: R, rdC D pw (rtake σ 1) :: R] k []) w) (fun _ => (0, undef)) [1] [0, 0, 1, 1] (fun _ _ => false) hz1 (by kernel_rfl) (by kernel_rfl) (by kernel_rfl) ?_ (show Mem _ _ from hM1) ?_ ?_
  · exact ⟨fun _ _ _ => rfl, fun _ _ _ => rfl, fun _ _ _ => rfl, fun _ _ _ => rfl, trivial⟩
  ·
   refine ⟨?_, ?_, ?_, ?_, trivial⟩
   · exact op2 (a := 0) rfl fun e w ρ (hM : Mem _ w) E => res_ok (x_move rfl (E.o 0 _ rfl g0_1)) (goes_still rfl rfl hM)
   ·
    refine op2 (a := 0) rfl fun e w ρ (hM : Mem _ w) E => ?_
    have e6 : ρ (.tmp 6) = .pointer (some ⟨pw, 0, none⟩) := E.d 0 _ 6 rfl rfl rfl
    refine res_in (x_call (args := #[.pointer (some ⟨pw, 0, none⟩), .int .i64 1]) rfl rfl (E.f _) (by simp [e6, E.c]) (by kernel_rfl)) ?_
    refine (rvalue_at D pw σ 1 _ _ (hM.front 0 rfl) (by omega) hb).mono ?_
    rintro e' w' ⟨rfl, hm⟩
    exact ⟨_, rfl, goes_tick rfl (0, undef) rfl hm⟩
   · exact op2 (a := 1) rfl fun e w ρ (hM : Mem _ w) E => res_ok (x_conv rfl (E.d 1 _ 7 rfl rfl rfl) (by kernel_rfl) (by kernel_rfl) (wr_i64 (by omega))) (goes_still rfl rfl hM)
   · exact op2 (a := 1) rfl fun e w ρ (hM : Mem _ w) E => res_ok (x_assign rfl (E.d 2 _ 8 rfl rfl rfl)) (goes_still rfl rfl hM)
  ·
   intro e a2 w2 hz2 hd hG hO hM
   have hd2 := hd.trans hd1
   have g0_2 := (hO 0 rfl).trans g0_1
   have g1_2 := (hO 1 rfl).trans g1_1
   have g4_2 := (hO 4 rfl).trans g4_1
   have g5_2 : a2.tmps[5]? = some (.int .i64 (rval σ 1)) := hG 3 _ 5 rfl rfl
   have hM2 : Mem (rdC D pw (rtake σ 1) :: R) w2 := hM
   clear hM hG hO hd
   clear hz1 hd1 hM1 g0_1 g1_1 g4_1
   refine then_n ?_
   refine wp_seq ?_
   refine wp_seq ?_
   refine region_seq 16 (fun zz e => (#[.int .i64 (rval σ 1), .int .i64 (most : Int), .bool (decide ((rval σ 1) > (most : Int)))] : Array Value).getD zz undef) (fun k e w => Mem (List.getD [rdC D pw (rtake σ 1) :: R] k []) w) (fun _ => (0, undef)) [] [0, 0, 0] (fun _ _ => false) hz2 (by kernel_rfl) (by kernel_rfl) (by kernel_rfl) ?_ (show Mem _ _ from hM2) ?_ ?_
   · exact ⟨fun _ _ _ => rfl, fun _ _ _ => rfl, fun _ _ _ => rfl, trivial⟩
   ·
    refine ⟨?_, ?_, ?_, trivial⟩
    · exact op2 (a := 0) rfl fun e w ρ (hM : Mem _ w) E => res_ok (x_move rfl (E.o 5 _ rfl g5_2)) (goes_still rfl rfl hM)
    · exact op2 (a := 0) rfl fun e w ρ (hM : Mem _ w) E => res_ok (x_move rfl (E.o 1 _ rfl g1_2)) (goes_still rfl rfl hM)
    · exact op2 (a := 0) rfl fun e w ρ (hM : Mem _ w) E => res_ok (x_gtr rfl (E.d 0 _ 9 rfl rfl rfl) (E.d 1 _ 10 rfl rfl rfl) rfl) (goes_still rfl rfl hM)
   ·
    intro e a3 w3 hz3 hd hG hO hM
    have hd3 := hd.trans hd2
    have g0_3 := (hO 0 rfl).trans g0_2
    have g4_3 := (hO 4 rfl).trans g4_2
    have g5_3 := (hO 5 rfl).trans g5_2
    have g11_3 : a3.tmps[11]? = some (.bool (decide ((rval σ 1) > (most : Int)))) := hG 2 _ 11 rfl rfl
    have hM3 : Mem (rdC D pw (rtake σ 1) :: R) w3 := hM
    clear hM hG hO hd
    clear hz2 hd2 hM2 g0_2 g1_2 g4_2 g5_2
    refine then_n ?_
    by_cases hc1 : (rval σ 1) > (most : Int)
    ·
     refine cond_t (g11_3.trans (by rw [decide_eq_true hc1])) ?_
     refine wp_seq ?_
     obtain ⟨ra, rc, hM3, hlc, hR, hac, hin⟩ := rdC_open hM3
     refine region_seq 16 (fun zz e => (#[.pointer (some ⟨pw, 0, none⟩), .pointer (some ⟨pw, 0, none⟩), .pointer (some ⟨pw, 1, none⟩), undef] : Array Value).getD zz undef) (fun k e w => Mem (List.getD [boxC pw #[.slice ra ((rtake σ 1).bs.length) rc, .bool (!(rtake σ 1).bad)] :: D :: R, boxC pw #[.slice ra ((rtake σ 1).bs.length) rc, .bool false] :: D :: R] k []) w) (fun _ => (0, undef)) [3] [0, 0, 0, 0] (fun _ _ => false) hz3 (by kernel_rfl) (by kernel_rfl) (by kernel_rfl) ?_ (show Mem _ _ from hM3) ?_ ?_
     · exact ⟨fun _ _ _ => rfl, fun _ _ _ => rfl, fun _ _ _ => rfl, fun _ _ _ => rfl, trivial⟩
     ·
      refine ⟨?_, ?_, ?_, ?_, trivial⟩
      · exact op2 (a := 0) rfl fun e w ρ (hM : Mem _ w) E => res_ok (x_move rfl (E.o 0 _ rfl g0_3)) (goes_still rfl rfl hM)
      · exact op2 (a := 0) rfl fun e w ρ (hM : Mem _ w) E => res_ok (x_nil rfl (E.d 0 _ 12 rfl rfl rfl)) (goes_still rfl rfl hM)
      · exact op2 (a := 0) rfl fun e w ρ (hM : Mem _ w) E => res_ok (x_fieldAddr (off := 1) rfl (E.d 1 _ 13 rfl rfl rfl) (by kernel_rfl) rfl) (goes_still rfl rfl hM)
      ·
       refine op2 (a := 0) rfl fun e w ρ (hM : Mem _ w) E => ?_
       have e14 := E.d 2 _ 14 rfl rfl rfl
       obtain ⟨w', hr, hm⟩ := Mem.store (P := Try.prog) hM 0 rfl 4 1 (.bool false) [.bool false] rfl (by kernel_rfl) (Nat.le_of_ble_eq_true rfl) (by rfl)
       exact res_st (x_store rfl (e14) (E.c _) hr) (goes_tick rfl (0, undef) rfl hm)
     ·
      intro e a4 w4 hz4 hd hG hO hM
      have hd4 := hd.trans hd3
      have g4_4 := (hO 4 rfl).trans g4_3
      have g5_4 := (hO 5 rfl).trans g5_3
      have hM4 : Mem (boxC pw #[.slice ra ((rtake σ 1).bs.length) rc, .bool false] :: D :: R) w4 := hM
      clear hM hG hO hd
      clear hz3 hd3 hM3 g0_3 g4_3 g5_3 g11_3
      refine then_n ?_
      refine wp_seq ?_
      refine region_seq 16 (fun zz e => (#[.int .i64 0] : Array Value).getD zz undef) (fun k e w => Mem (List.getD [boxC pw #[.slice ra ((rtake σ 1).bs.length) rc, .bool false] :: D :: R] k []) w) (fun _ => (0, undef)) [] [0] (fun _ _ => false) hz4 (by kernel_rfl) (by kernel_rfl) (by kernel_rfl) ?_ (show Mem _ _ from hM4) ?_ ?_
      · exact ⟨fun _ _ _ => rfl, trivial⟩
      ·
       refine ⟨?_, trivial⟩
       · exact op2 (a := 0) rfl fun e w ρ (hM : Mem _ w) E => res_ok (x_assign rfl (E.c _)) (goes_still rfl rfl hM)
      ·
       intro e a5 w5 hz5 hd hG hO hM
       have hd5 := hd.trans hd4
       have g4_5 : a5.tmps[4]? = some (.int .i64 0) := hG 0 _ 4 rfl rfl
       have g5_5 := (hO 5 rfl).trans g5_4
       have hM5 : Mem (boxC pw #[.slice ra ((rtake σ 1).bs.length) rc, .bool false] :: D :: R) w5 := hM
       clear hM hG hO hd
       clear hz4 hd4 hM4 g4_4 g5_4
       refine then_n ?_
       refine wp_ret ?_
       refine then_r ?_
       refine ret_1 Try.results52 hd5 g4_5 ?_
       have e1 : rmany σ most = _ := if_pos hc1
       rw [e1]
       exact ⟨rfl, rdC_shut (σ := ⟨true, (rtake σ 1).bs⟩) hM5 ⟨ra, rc, rfl, hlc, hR, hac, hin⟩⟩
    ·
     refine cond_f (g11_3.trans (by rw [decide_eq_false hc1])) ?_
     refine wp_skip ?_
     refine then_n ?_
     refine wp_seq ?_
     refine region_seq 16 (fun zz e => (#[.int .i64 (rval σ 1), .int .i64 (rval σ 1)] : Array Value).getD zz undef) (fun k e w => Mem (List.getD [rdC D pw (rtake σ 1) :: R] k []) w) (fun _ => (0, undef)) [] [0, 0] (fun _ _ => false) hz3 (by kernel_rfl) (by kernel_rfl) (by kernel_rfl) ?_ (show Mem _ _ from hM3) ?_ ?_
     · exact ⟨fun _ _ _ => rfl, fun _ _ _ => rfl, trivial⟩
     ·
      refine ⟨?_, ?_, trivial⟩
      · exact op2 (a := 0) rfl fun e w ρ (hM : Mem _ w) E => res_ok (x_move rfl (E.o 5 _ rfl g5_3)) (goes_still rfl rfl hM)
      · exact op2 (a := 0) rfl fun e w ρ (hM : Mem _ w) E => res_ok (x_assign rfl (E.d 0 _ 15 rfl rfl rfl)) (goes_still rfl rfl hM)
     ·
      intro e a6 w6 hz6 hd hG hO hM
      have hd6 := hd.trans hd3
      have g4_6 : a6.tmps[4]? = some (.int .i64 (rval σ 1)) := hG 1 _ 4 rfl rfl
      have hM6 : Mem (rdC D pw (rtake σ 1) :: R) w6 := hM
      clear hM hG hO hd
      clear hz3 hd3 hM3 g0_3 g4_3 g5_3 g11_3
      refine then_n ?_
      refine wp_ret ?_
      refine ret_1 Try.results52 hd6 g4_6 ?_
      have e1 : rmany σ most = _ := if_neg hc1
      rw [e1]
      exact ⟨by show _ = Ending.returned (.int .i64 (((rval σ 1).toNat : Nat) : Int)); rw [Int.toNat_of_nonneg hv.1], hM6⟩
end Go.Proofs.Ytfcjmpgbohgoeaa
