/- CODEC: legs, tickets. -/
import Derived.Test.YtfcjmpgbohgoeaaCo4
namespace Go.Proofs.Ytfcjmpgbohgoeaa
open Go.RowKit Go.Lib Go.Tk Go.Shelf Go.Vc
set_option linter.unusedVariables false
set_option linter.unusedSimpArgs false
attribute [-go_sem] loadCellsFrom
set_option maxRecDepth 100000 in
set_option maxHeartbeats 2000000 in
theorem leg_at (m : Md) (pw : Nat) (σ : WS) (q : Option TypeId) (b off : Nat) (vs : Array Value) (l : LegV) (R : List Chunk) (w : World) (hM : Mem (walkC m pw σ :: boxE q b vs :: R) w) (hs : Seg vs off (legE l)) (hb : σ.bs.length ≤ 999000) :
  Calls Try.prog 58 #[.pointer (some ⟨pw, 0, none⟩), .pointer (some ⟨b, off, none⟩)] w fun e w' => e = .returned (.tuple #[]) ∧ Mem (walkC m pw (legF m σ l).2 :: boxE q b (over vs off (legE (legF m σ l).1)) :: R) w' := by
 have hM0 : Mem (walkC m pw σ :: boxE q b (over vs off []) :: R) w := by rw [over_nil]; exact hM
 refine enter Try.func58 rfl Try.ntmps58 (Nat.le_of_ble_eq_true rfl) ?_
 intro a0 hz0 hd0 hg0
 have g0_0 : a0.tmps[0]? = some (.pointer (some ⟨pw, 0, none⟩)) := hg0 0 _ rfl
 have g1_0 : a0.tmps[1]? = some (.pointer (some ⟨b, off, none⟩)) := hg0 1 _ rfl
 clear hg0
 have hM0 : Mem (walkC m pw σ :: boxE q b (over vs off []) :: R) _ := hM0
 refine wp_seq ?_
 refine region_seq 19 (fun zz e => (#[.pointer (some ⟨pw, 0, none⟩), .pointer (some ⟨b, off, none⟩), .pointer (some ⟨b, off, none⟩), .pointer (some ⟨b, off, none⟩), .tuple #[]] : Array Value).getD zz undef) (fun k e w => Mem (List.getD [walkC m pw σ :: boxE q b (over vs off []) :: R, walkC m pw ((fld .u8 m σ l.c 1).2) :: boxE q b (over vs off [.int .u8 (fld .u8 m σ l.c 1).1]) :: R] k []) w) (fun _ => (0, undef)) [4] [0, 0, 0, 0, 0] (fun _ _ => false) hz0 (by kernel_rfl) (by kernel_rfl) (by kernel_rfl) ?_ (show Mem _ _ from hM0) ?_ ?_
 · exact ⟨fun _ _ _ => rfl, fun _ _ _ => rfl, fun _ _ _ => rfl, fun _ _ _ => rfl, fun _ _ _ => rfl, trivial⟩
 ·
  refine ⟨?_, ?_, ?_, ?_, ?_, trivial⟩
  · exact op2 (a := 0) rfl fun e w ρ (hM : Mem _ w) E => res_ok (x_move rfl (E.o 0 _ rfl g0_0)) (goes_still rfl rfl hM)
  · exact op2 (a := 0) rfl fun e w ρ (hM : Mem _ w) E => res_ok (x_move rfl (E.o 1 _ rfl g1_0)) (goes_still rfl rfl hM)
  · exact op2 (a := 0) rfl fun e w ρ (hM : Mem _ w) E => res_ok (x_nil rfl (E.d 1 _ 5 rfl rfl rfl)) (goes_still rfl rfl hM)
  · exact op2 (a := 0) rfl fun e w ρ (hM : Mem _ w) E => res_ok (x_fieldAddr (off := 0) rfl (E.d 2 _ 6 rfl rfl rfl) (by kernel_rfl) rfl) (goes_still rfl rfl hM)
  ·
   refine op2 (a := 0) rfl fun e w ρ (hM : Mem _ w) E => ?_
   have e4 : ρ (.tmp 4) = .pointer (some ⟨pw, 0, none⟩) := E.d 0 _ 4 rfl rfl rfl
   have e7 : ρ (.tmp 7) = .pointer (some ⟨b, off, none⟩) := E.d 3 _ 7 rfl rfl rfl
   refine res_in (x_call (args := #[.pointer (some ⟨pw, 0, none⟩), .pointer (some ⟨b, off, none⟩), .int .i64 1]) rfl rfl (E.f _) (by simp [e4, e7, E.c]) (by kernel_rfl)) ?_
   refine (seg_uint8 m pw σ q b off (over vs off []) l.c 1 _ _ ((hM.front 1 rfl).front 1 rfl) (hs.behind (l := []) 1 (Nat.le_of_ble_eq_true rfl)) (by decide) (by omega)).mono ?_
   rintro e' w' ⟨rfl, hm⟩
   have hm : Mem (walkC m pw ((fld .u8 m σ l.c 1).2) :: boxE q b (over vs off [.int .u8 (fld .u8 m σ l.c 1).1]) :: R) w' := by rw [show over vs off [.int .u8 (fld .u8 m σ l.c 1).1] = over (over vs off []) off [.int .u8 (fld .u8 m σ l.c 1).1] from (over_over (l := []) (l' := [.int .u8 (fld .u8 m σ l.c 1).1]) (by have := hs.1; simp only [List.length_cons, List.length_nil] at this ⊢; simp [legE] at this; omega)).symm]; exact hm
   exact ⟨_, rfl, goes_tick rfl (0, undef) rfl hm⟩
 ·
  intro e a1 w1 hz1 hd hG hO hM
  have hd1 := hd.trans hd0
  have g0_1 := (hO 0 rfl).trans g0_0
  have g1_1 := (hO 1 rfl).trans g1_0
  have hM1 : Mem (walkC m pw ((fld .u8 m σ l.c 1).2) :: boxE q b (over vs off [.int .u8 (fld .u8 m σ l.c 1).1]) :: R) w1 := hM
  clear hM hG hO hd
  clear hz0 hd0 hM0 g0_0 g1_0
  refine then_n ?_
  refine wp_seq ?_
  refine region_seq 19 (fun zz e => (#[.pointer (some ⟨pw, 0, none⟩), .pointer (some ⟨b, off, none⟩), .pointer (some ⟨b, off, none⟩), .pointer (some ⟨b, off + 1, none⟩), .tuple #[]] : Array Value).getD zz undef) (fun k e w => Mem (List.getD [walkC m pw ((fld .u8 m σ l.c 1).2) :: boxE q b (over vs off [.int .u8 (fld .u8 m σ l.c 1).1]) :: R, walkC m pw ((fld .u16 m (fld .u8 m σ l.c 1).2 l.f 2).2) :: boxE q b (over vs off [.int .u8 (fld .u8 m σ l.c 1).1, .int .u16 (fld .u16 m (fld .u8 m σ l.c 1).2 l.f 2).1]) :: R] k []) w) (fun _ => (0, undef)) [4] [0, 0, 0, 0, 0] (fun _ _ => false) hz1 (by kernel_rfl) (by kernel_rfl) (by kernel_rfl) ?_ (show Mem _ _ from hM1) ?_ ?_
  · exact ⟨fun _ _ _ => rfl, fun _ _ _ => rfl, fun _ _ _ => rfl, fun _ _ _ => rfl, fun _ _ _ => rfl, trivial⟩
  ·
   refine ⟨?_, ?_, ?_, ?_, ?_, trivial⟩
   · exact op2 (a := 0) rfl fun e w ρ (hM : Mem _ w) E => res_ok (x_move rfl (E.o 0 _ rfl g0_1)) (goes_still rfl rfl hM)
   · exact op2 (a := 0) rfl fun e w ρ (hM : Mem _ w) E => res_ok (x_move rfl (E.o 1 _ rfl g1_1)) (goes_still rfl rfl hM)
   · exact op2 (a := 0) rfl fun e w ρ (hM : Mem _ w) E => res_ok (x_nil rfl (E.d 1 _ 10 rfl rfl rfl)) (goes_still rfl rfl hM)
   · exact op2 (a := 0) rfl fun e w ρ (hM : Mem _ w) E => res_ok (x_fieldAddr (off := 1) rfl (E.d 2 _ 11 rfl rfl rfl) (by kernel_rfl) rfl) (goes_still rfl rfl hM)
   ·
    refine op2 (a := 0) rfl fun e w ρ (hM : Mem _ w) E => ?_
    have e9 : ρ (.tmp 9) = .pointer (some ⟨pw, 0, none⟩) := E.d 0 _ 9 rfl rfl rfl
    have e12 : ρ (.tmp 12) = .pointer (some ⟨b, off + 1, none⟩) := E.d 3 _ 12 rfl rfl rfl
    refine res_in (x_call (args := #[.pointer (some ⟨pw, 0, none⟩), .pointer (some ⟨b, off + 1, none⟩), .int .i64 2]) rfl rfl (E.f _) (by simp [e12, e9, E.c]) (by kernel_rfl)) ?_
    refine (seg_uint16 m pw ((fld .u8 m σ l.c 1).2) q b (off + 1) (over vs off [.int .u8 (fld .u8 m σ l.c 1).1]) l.f 2 _ _ ((hM.front 1 rfl).front 1 rfl) (hs.behind (l := [.int .u8 (fld .u8 m σ l.c 1).1]) 1 (Nat.le_of_ble_eq_true rfl)) (by decide) (by have := fld_len .u8 m σ l.c 1; omega)).mono ?_
    rintro e' w' ⟨rfl, hm⟩
    have hm : Mem (walkC m pw ((fld .u16 m (fld .u8 m σ l.c 1).2 l.f 2).2) :: boxE q b (over vs off [.int .u8 (fld .u8 m σ l.c 1).1, .int .u16 (fld .u16 m (fld .u8 m σ l.c 1).2 l.f 2).1]) :: R) w' := by rw [show over vs off [.int .u8 (fld .u8 m σ l.c 1).1, .int .u16 (fld .u16 m (fld .u8 m σ l.c 1).2 l.f 2).1] = over (over vs off [.int .u8 (fld .u8 m σ l.c 1).1]) (off + 1) [.int .u16 (fld .u16 m (fld .u8 m σ l.c 1).2 l.f 2).1] from (over_over (l := [.int .u8 (fld .u8 m σ l.c 1).1]) (l' := [.int .u16 (fld .u16 m (fld .u8 m σ l.c 1).2 l.f 2).1]) (by have := hs.1; simp only [List.length_cons, List.length_nil] at this ⊢; simp [legE] at this; omega)).symm]; exact hm
    exact ⟨_, rfl, goes_tick rfl (0, undef) rfl hm⟩
  ·
   intro e a2 w2 hz2 hd hG hO hM
   have hd2 := hd.trans hd1
   have g0_2 := (hO 0 rfl).trans g0_1
   have g1_2 := (hO 1 rfl).trans g1_1
   have hM2 : Mem (walkC m pw ((fld .u16 m (fld .u8 m σ l.c 1).2 l.f 2).2) :: boxE q b (over vs off [.int .u8 (fld .u8 m σ l.c 1).1, .int .u16 (fld .u16 m (fld .u8 m σ l.c 1).2 l.f 2).1]) :: R) w2 := hM
   clear hM hG hO hd
   clear hz1 hd1 hM1 g0_1 g1_1
   refine then_n ?_
   refine region_seq 19 (fun zz e => (#[.pointer (some ⟨pw, 0, none⟩), .pointer (some ⟨b, off, none⟩), .pointer (some ⟨b, off, none⟩), .pointer (some ⟨b, off + 2, none⟩), .tuple #[]] : Array Value).getD zz undef) (fun k e w => Mem (List.getD [walkC m pw ((fld .u16 m (fld .u8 m σ l.c 1).2 l.f 2).2) :: boxE q b (over vs off [.int .u8 (fld .u8 m σ l.c 1).1, .int .u16 (fld .u16 m (fld .u8 m σ l.c 1).2 l.f 2).1]) :: R, walkC m pw ((fld .u32 m (fld .u16 m (fld .u8 m σ l.c 1).2 l.f 2).2 l.x 4).2) :: boxE q b (over vs off [.int .u8 (fld .u8 m σ l.c 1).1, .int .u16 (fld .u16 m (fld .u8 m σ l.c 1).2 l.f 2).1, .int .u32 (fld .u32 m (fld .u16 m (fld .u8 m σ l.c 1).2 l.f 2).2 l.x 4).1]) :: R] k []) w) (fun _ => (0, undef)) [4] [0, 0, 0, 0, 0] (fun _ _ => false) hz2 (by kernel_rfl) (by kernel_rfl) (by kernel_rfl) ?_ (show Mem _ _ from hM2) ?_ ?_
   · exact ⟨fun _ _ _ => rfl, fun _ _ _ => rfl, fun _ _ _ => rfl, fun _ _ _ => rfl, fun _ _ _ => rfl, trivial⟩
   ·
    refine ⟨?_, ?_, ?_, ?_, ?_, trivial⟩
    · exact op2 (a := 0) rfl fun e w ρ (hM : Mem _ w) E => res_ok (x_move rfl (E.o 0 _ rfl g0_2)) (goes_still rfl rfl hM)
    · exact op2 (a := 0) rfl fun e w ρ (hM : Mem _ w) E => res_ok (x_move rfl (E.o 1 _ rfl g1_2)) (goes_still rfl rfl hM)
    · exact op2 (a := 0) rfl fun e w ρ (hM : Mem _ w) E => res_ok (x_nil rfl (E.d 1 _ 15 rfl rfl rfl)) (goes_still rfl rfl hM)
    · exact op2 (a := 0) rfl fun e w ρ (hM : Mem _ w) E => res_ok (x_fieldAddr (off := 2) rfl (E.d 2 _ 16 rfl rfl rfl) (by kernel_rfl) rfl) (goes_still rfl rfl hM)
    ·
     refine op2 (a := 0) rfl fun e w ρ (hM : Mem _ w) E => ?_
     have e14 : ρ (.tmp 14) = .pointer (some ⟨pw, 0, none⟩) := E.d 0 _ 14 rfl rfl rfl
     have e17 : ρ (.tmp 17) = .pointer (some ⟨b, off + 2, none⟩) := E.d 3 _ 17 rfl rfl rfl
     refine res_in (x_call (args := #[.pointer (some ⟨pw, 0, none⟩), .pointer (some ⟨b, off + 2, none⟩), .int .i64 4]) rfl rfl (E.f _) (by simp [e14, e17, E.c]) (by kernel_rfl)) ?_
     refine (seg_uint32 m pw ((fld .u16 m (fld .u8 m σ l.c 1).2 l.f 2).2) q b (off + 2) (over vs off [.int .u8 (fld .u8 m σ l.c 1).1, .int .u16 (fld .u16 m (fld .u8 m σ l.c 1).2 l.f 2).1]) l.x 4 _ _ ((hM.front 1 rfl).front 1 rfl) (hs.behind (l := [.int .u8 (fld .u8 m σ l.c 1).1, .int .u16 (fld .u16 m (fld .u8 m σ l.c 1).2 l.f 2).1]) 1 (Nat.le_of_ble_eq_true rfl)) (by decide) (by have h1 := fld_len .u8 m σ l.c 1; have h2 := fld_len .u16 m (fld .u8 m σ l.c 1).2 l.f 2; omega)).mono ?_
     rintro e' w' ⟨rfl, hm⟩
     have hm : Mem (walkC m pw ((fld .u32 m (fld .u16 m (fld .u8 m σ l.c 1).2 l.f 2).2 l.x 4).2) :: boxE q b (over vs off [.int .u8 (fld .u8 m σ l.c 1).1, .int .u16 (fld .u16 m (fld .u8 m σ l.c 1).2 l.f 2).1, .int .u32 (fld .u32 m (fld .u16 m (fld .u8 m σ l.c 1).2 l.f 2).2 l.x 4).1]) :: R) w' := by rw [show over vs off [.int .u8 (fld .u8 m σ l.c 1).1, .int .u16 (fld .u16 m (fld .u8 m σ l.c 1).2 l.f 2).1, .int .u32 (fld .u32 m (fld .u16 m (fld .u8 m σ l.c 1).2 l.f 2).2 l.x 4).1] = over (over vs off [.int .u8 (fld .u8 m σ l.c 1).1, .int .u16 (fld .u16 m (fld .u8 m σ l.c 1).2 l.f 2).1]) (off + 2) [.int .u32 (fld .u32 m (fld .u16 m (fld .u8 m σ l.c 1).2 l.f 2).2 l.x 4).1] from (over_over (l := [.int .u8 (fld .u8 m σ l.c 1).1, .int .u16 (fld .u16 m (fld .u8 m σ l.c 1).2 l.f 2).1]) (l' := [.int .u32 (fld .u32 m (fld .u16 m (fld .u8 m σ l.c 1).2 l.f 2).2 l.x 4).1]) (by have := hs.1; simp only [List.length_cons, List.length_nil] at this ⊢; simp [legE] at this; omega)).symm]; exact hm
     exact ⟨_, rfl, goes_tick rfl (0, undef) rfl hm⟩
   ·
    intro e a3 w3 hz3 hd hG hO hM
    have hd3 := hd.trans hd2
    have hM3 : Mem (walkC m pw ((fld .u32 m (fld .u16 m (fld .u8 m σ l.c 1).2 l.f 2).2 l.x 4).2) :: boxE q b (over vs off [.int .u8 (fld .u8 m σ l.c 1).1, .int .u16 (fld .u16 m (fld .u8 m σ l.c 1).2 l.f 2).1, .int .u32 (fld .u32 m (fld .u16 m (fld .u8 m σ l.c 1).2 l.f 2).2 l.x 4).1]) :: R) w3 := hM
    clear hM hG hO hd
    clear hz2 hd2 hM2 g0_2 g1_2
    refine end_r ?_
    refine ret_0 Try.results58 hd3 ?_
    exact ⟨rfl, hM3⟩
set_option maxRecDepth 100000 in
set_option maxHeartbeats 2000000 in
theorem tick_at (m : Md) (pw : Nat) (σ : WS) (q : Option TypeId) (b off : Nat) (vs : Array Value) (l : TickV) (R : List Chunk) (w : World) (hM : Mem (walkC m pw σ :: boxE q b vs :: R) w) (hs : Seg vs off (tickE l)) (hb : σ.bs.length ≤ 999000) (hr : 0 ≤ l.r ∧ l.r ≤ 18446744073709551615) :
  Calls Try.prog 54 #[.pointer (some ⟨pw, 0, none⟩), .pointer (some ⟨b, off, none⟩)] w fun e w' => e = .returned (.tuple #[]) ∧ Mem (walkC m pw (tickF m σ l).2 :: boxE q b (over vs off (tickE (tickF m σ l).1)) :: R) w' := by
 have hM0 : Mem (walkC m pw σ :: boxE q b (over vs off []) :: R) w := by rw [over_nil]; exact hM
 refine enter Try.func54 rfl Try.ntmps54 (Nat.le_of_ble_eq_true rfl) ?_
 intro a0 hz0 hd0 hg0
 have g0_0 : a0.tmps[0]? = some (.pointer (some ⟨pw, 0, none⟩)) := hg0 0 _ rfl
 have g1_0 : a0.tmps[1]? = some (.pointer (some ⟨b, off, none⟩)) := hg0 1 _ rfl
 clear hg0
 have hM0 : Mem (walkC m pw σ :: boxE q b (over vs off []) :: R) _ := hM0
 refine wp_seq ?_
 refine region_seq 14 (fun zz e => (#[.pointer (some ⟨pw, 0, none⟩), .pointer (some ⟨b, off, none⟩), .pointer (some ⟨b, off, none⟩), .pointer (some ⟨b, off, none⟩), .tuple #[]] : Array Value).getD zz undef) (fun k e w => Mem (List.getD [walkC m pw σ :: boxE q b (over vs off []) :: R, walkC m pw ((fld .u8 m σ l.c 1).2) :: boxE q b (over vs off [.int .u8 (fld .u8 m σ l.c 1).1]) :: R] k []) w) (fun _ => (0, undef)) [4] [0, 0, 0, 0, 0] (fun _ _ => false) hz0 (by kernel_rfl) (by kernel_rfl) (by kernel_rfl) ?_ (show Mem _ _ from hM0) ?_ ?_
 · exact ⟨fun _ _ _ => rfl, fun _ _ _ => rfl, fun _ _ _ => rfl, fun _ _ _ => rfl, fun _ _ _ => rfl, trivial⟩
 ·
  refine ⟨?_, ?_, ?_, ?_, ?_, trivial⟩
  · exact op2 (a := 0) rfl fun e w ρ (hM : Mem _ w) E => res_ok (x_move rfl (E.o 0 _ rfl g0_0)) (goes_still rfl rfl hM)
  · exact op2 (a := 0) rfl fun e w ρ (hM : Mem _ w) E => res_ok (x_move rfl (E.o 1 _ rfl g1_0)) (goes_still rfl rfl hM)
  · exact op2 (a := 0) rfl fun e w ρ (hM : Mem _ w) E => res_ok (x_nil rfl (E.d 1 _ 5 rfl rfl rfl)) (goes_still rfl rfl hM)
  · exact op2 (a := 0) rfl fun e w ρ (hM : Mem _ w) E => res_ok (x_fieldAddr (off := 0) rfl (E.d 2 _ 6 rfl rfl rfl) (by kernel_rfl) rfl) (goes_still rfl rfl hM)
  ·
   refine op2 (a := 0) rfl fun e w ρ (hM : Mem _ w) E => ?_
   have e4 : ρ (.tmp 4) = .pointer (some ⟨pw, 0, none⟩) := E.d 0 _ 4 rfl rfl rfl
   have e7 : ρ (.tmp 7) = .pointer (some ⟨b, off, none⟩) := E.d 3 _ 7 rfl rfl rfl
   refine res_in (x_call (args := #[.pointer (some ⟨pw, 0, none⟩), .pointer (some ⟨b, off, none⟩), .int .i64 1]) rfl rfl (E.f _) (by simp [e4, e7, E.c]) (by kernel_rfl)) ?_
   refine (seg_uint8 m pw σ q b off (over vs off []) l.c 1 _ _ ((hM.front 1 rfl).front 1 rfl) (hs.behind (l := []) 1 (Nat.le_of_ble_eq_true rfl)) (by decide) (by omega)).mono ?_
   rintro e' w' ⟨rfl, hm⟩
   have hm : Mem (walkC m pw ((fld .u8 m σ l.c 1).2) :: boxE q b (over vs off [.int .u8 (fld .u8 m σ l.c 1).1]) :: R) w' := by rw [show over vs off [.int .u8 (fld .u8 m σ l.c 1).1] = over (over vs off []) off [.int .u8 (fld .u8 m σ l.c 1).1] from (over_over (l := []) (l' := [.int .u8 (fld .u8 m σ l.c 1).1]) (by have := hs.1; simp only [List.length_cons, List.length_nil] at this ⊢; simp [tickE] at this; omega)).symm]; exact hm
   exact ⟨_, rfl, goes_tick rfl (0, undef) rfl hm⟩
 ·
  intro e a1 w1 hz1 hd hG hO hM
  have hd1 := hd.trans hd0
  have g0_1 := (hO 0 rfl).trans g0_0
  have g1_1 := (hO 1 rfl).trans g1_0
  have hM1 : Mem (walkC m pw ((fld .u8 m σ l.c 1).2) :: boxE q b (over vs off [.int .u8 (fld .u8 m σ l.c 1).1]) :: R) w1 := hM
  clear hM hG hO hd
  clear hz0 hd0 hM0 g0_0 g1_0
  refine then_n ?_
  refine region_seq 14 (fun zz e => (#[.pointer (some ⟨pw, 0, none⟩), .pointer (some ⟨b, off, none⟩), .pointer (some ⟨b, off, none⟩), .pointer (some ⟨b, off + 1, none⟩), .tuple #[]] : Array Value).getD zz undef) (fun k e w => Mem (List.getD [walkC m pw ((fld .u8 m σ l.c 1).2) :: boxE q b (over vs off [.int .u8 (fld .u8 m σ l.c 1).1]) :: R, walkC m pw ((num m (fld .u8 m σ l.c 1).2 l.r 8).2) :: boxE q b (over vs off [.int .u8 (fld .u8 m σ l.c 1).1, .int .u64 (num m (fld .u8 m σ l.c 1).2 l.r 8).1]) :: R] k []) w) (fun _ => (0, undef)) [4] [0, 0, 0, 0, 0] (fun _ _ => false) hz1 (by kernel_rfl) (by kernel_rfl) (by kernel_rfl) ?_ (show Mem _ _ from hM1) ?_ ?_
  · exact ⟨fun _ _ _ => rfl, fun _ _ _ => rfl, fun _ _ _ => rfl, fun _ _ _ => rfl, fun _ _ _ => rfl, trivial⟩
  ·
   refine ⟨?_, ?_, ?_, ?_, ?_, trivial⟩
   · exact op2 (a := 0) rfl fun e w ρ (hM : Mem _ w) E => res_ok (x_move rfl (E.o 0 _ rfl g0_1)) (goes_still rfl rfl hM)
   · exact op2 (a := 0) rfl fun e w ρ (hM : Mem _ w) E => res_ok (x_move rfl (E.o 1 _ rfl g1_1)) (goes_still rfl rfl hM)
   · exact op2 (a := 0) rfl fun e w ρ (hM : Mem _ w) E => res_ok (x_nil rfl (E.d 1 _ 10 rfl rfl rfl)) (goes_still rfl rfl hM)
   · exact op2 (a := 0) rfl fun e w ρ (hM : Mem _ w) E => res_ok (x_fieldAddr (off := 1) rfl (E.d 2 _ 11 rfl rfl rfl) (by kernel_rfl) rfl) (goes_still rfl rfl hM)
   ·
    refine op2 (a := 0) rfl fun e w ρ (hM : Mem _ w) E => ?_
    have e9 : ρ (.tmp 9) = .pointer (some ⟨pw, 0, none⟩) := E.d 0 _ 9 rfl rfl rfl
    have e12 : ρ (.tmp 12) = .pointer (some ⟨b, off + 1, none⟩) := E.d 3 _ 12 rfl rfl rfl
    refine res_in (x_call (args := #[.pointer (some ⟨pw, 0, none⟩), .pointer (some ⟨b, off + 1, none⟩), .int .i64 8]) rfl rfl (E.f _) (by simp [e12, e9, E.c]) (by kernel_rfl)) ?_
    refine (seg_uint64 m pw ((fld .u8 m σ l.c 1).2) q b (off + 1) (over vs off [.int .u8 (fld .u8 m σ l.c 1).1]) l.r 8 _ _ ((hM.front 1 rfl).front 1 rfl) (hs.behind (l := [.int .u8 (fld .u8 m σ l.c 1).1]) 1 (Nat.le_of_ble_eq_true rfl)) (by decide) (by have := fld_len .u8 m σ l.c 1; omega) hr).mono ?_
    rintro e' w' ⟨rfl, hm⟩
    have hm : Mem (walkC m pw ((num m (fld .u8 m σ l.c 1).2 l.r 8).2) :: boxE q b (over vs off [.int .u8 (fld .u8 m σ l.c 1).1, .int .u64 (num m (fld .u8 m σ l.c 1).2 l.r 8).1]) :: R) w' := by rw [show over vs off [.int .u8 (fld .u8 m σ l.c 1).1, .int .u64 (num m (fld .u8 m σ l.c 1).2 l.r 8).1] = over (over vs off [.int .u8 (fld .u8 m σ l.c 1).1]) (off + 1) [.int .u64 (num m (fld .u8 m σ l.c 1).2 l.r 8).1] from (over_over (l := [.int .u8 (fld .u8 m σ l.c 1).1]) (l' := [.int .u64 (num m (fld .u8 m σ l.c 1).2 l.r 8).1]) (by have := hs.1; simp only [List.length_cons, List.length_nil] at this ⊢; simp [tickE] at this; omega)).symm]; exact hm
    exact ⟨_, rfl, goes_tick rfl (0, undef) rfl hm⟩
  ·
   intro e a2 w2 hz2 hd hG hO hM
   have hd2 := hd.trans hd1
   have hM2 : Mem (walkC m pw ((num m (fld .u8 m σ l.c 1).2 l.r 8).2) :: boxE q b (over vs off [.int .u8 (fld .u8 m σ l.c 1).1, .int .u64 (num m (fld .u8 m σ l.c 1).2 l.r 8).1]) :: R) w2 := hM
   clear hM hG hO hd
   clear hz1 hd1 hM1 g0_1 g1_1
   refine end_r ?_
   refine ret_0 Try.results54 hd2 ?_
   exact ⟨rfl, hM2⟩
end Go.Proofs.Ytfcjmpgbohgoeaa
