/- CODEC: fields. -/
import Derived.Test.YtfcjmpgbohgoeaaCo2
namespace Go.Proofs.Ytfcjmpgbohgoeaa
open Go.RowKit Go.Lib Go.Tk Go.Shelf Go.Vc
set_option linter.unusedVariables false
set_option linter.unusedSimpArgs false
attribute [-go_sem] loadCellsFrom
theorem nf_enters (m : Md) : entersB Try.prog (nf m) = true := by cases m <;> kernel_rfl
theorem num_at (m : Md) (pw : Nat) (σ : WS) (v : Int) (n : Nat) (R : List Chunk) (w : World) (hM : Mem (walkC m pw σ :: R) w) (hv : 0 ≤ v ∧ v ≤ 18446744073709551615) (hn : 1 ≤ n ∧ n ≤ 8) (hb : σ.bs.length ≤ 1000000) :
  Calls Try.prog (nf m) #[.pointer (some ⟨pw, 0, none⟩), .int .u64 v, .int .i64 n] w fun e w' => e = .returned (.int .u64 (num m σ v n).1) ∧ Mem (walkC m pw (num m σ v n).2 :: R) w' := by
 obtain ⟨v0, hM⟩ := walk_open hM
 cases m with
 | lay =>
  refine (lay_at pw σ.bad v0 σ.bs v n R w hM hv hn.2 hb).mono ?_
  rintro e w' ⟨v1, he, h⟩
  refine ⟨he, walk_shut (v := v1) ?_⟩
  show Mem (boxC pw _ :: rowC _ _ _ (σ.bs ++ be v n).length _ :: R) w'
  rw [List.length_append, be_len]
  exact h
 | take D =>
  have h1 := hM.front 1 rfl
  obtain ⟨a, c, rfl, hlc, hR, hac, hin⟩ := (h1.all (l := [D, pureC (InSlice D v0 σ.bs)])).front 1 rfl |>.pure
  have h2 : Mem (boxC pw #[.slice a σ.bs.length c, .func (.func (nf (.take D))) #[.pointer (some ⟨pw, 0, none⟩)] #[], .bool σ.bad] :: D :: R) w := ((h1.all (l := [D, pureC (InSlice D (.slice a σ.bs.length c) σ.bs)])).erase 1 rfl).front 1 rfl
  refine (take_at pw σ.bad a c σ.bs v n D R w h2 hR hlc hac hin hn hb).mono ?_
  rintro e w' ⟨v1, he, hi, h⟩
  refine ⟨he, walk_shut (v := v1) ?_⟩
  have h3 := (h.front 1 rfl).front 0 rfl
  exact ((Mem.in_all (l := [D, pureC (InSlice D v1 _)]) ((Mem.in_pure hi h3).front 1 rfl)).front 1 rfl)

set_option maxRecDepth 100000 in
set_option maxHeartbeats 2000000 in
theorem field_uint8 (m : Md) (pw : Nat) (σ : WS) (q : Option TypeId) (b off : Nat) (vs : Array Value) (x : Int) (n : Nat) (R : List Chunk) (w : World) (hM : Mem (walkC m pw σ :: boxE q b vs :: R) w) (hx : vs[off]? = some (.int .u8 x)) (hn : 1 ≤ n ∧ n ≤ 8) (hb : σ.bs.length ≤ 1000000) :
  Calls Try.prog 40 #[.pointer (some ⟨pw, 0, none⟩), .pointer (some ⟨b, off, none⟩), .int .i64 n] w fun e w' => e = .returned (.tuple #[]) ∧ Mem (walkC m pw (num m σ (IntKind.u64.wrap x) n).2 :: boxE q b (over vs off [.int .u8 (IntKind.u8.wrap (num m σ (IntKind.u64.wrap x) n).1)]) :: R) w' := by
 obtain ⟨v, hM⟩ := walk_open hM
 have hoff : off + 1 ≤ vs.size := (Array.getElem?_eq_some_iff.1 hx).1
 have hv : 0 ≤ IntKind.u64.wrap x ∧ IntKind.u64.wrap x ≤ 18446744073709551615 := by rw [IntKind.wrap_u64]; omega
 refine enter Try.func40 rfl Try.ntmps40 (Nat.le_of_ble_eq_true rfl) ?_
 intro a0 hz0 hd0 hg0
 have g0_0 : a0.tmps[0]? = some (.pointer (some ⟨pw, 0, none⟩)) := hg0 0 _ rfl
 have g1_0 : a0.tmps[1]? = some (.pointer (some ⟨b, off, none⟩)) := hg0 1 _ rfl
 have g2_0 : a0.tmps[2]? = some (.int .i64 (n : Int)) := hg0 2 _ rfl
 clear hg0
 have hM0 : Mem (boxC pw #[v, .func (.func (nf m)) #[.pointer (some ⟨pw, 0, none⟩)] #[], .bool σ.bad] :: tailC m v σ.bs :: boxE q b vs :: R) _ := hM
 refine region_draw 19 (fun zz e => (#[.pointer (some ⟨b, off, none⟩), .pointer (some ⟨pw, 0, none⟩), .pointer (some ⟨pw, 0, none⟩), .pointer (some ⟨pw, 1, none⟩), .func (.func (nf m)) #[.pointer (some ⟨pw, 0, none⟩)] #[], .pointer (some ⟨b, off, none⟩), .pointer (some ⟨b, off, none⟩), .int .u8 x, .int .u64 (IntKind.u64.wrap x), .int .i64 (n : Int), .int .u64 ((num m σ (IntKind.u64.wrap x) n).1), .int .u8 (IntKind.u8.wrap (num m σ (IntKind.u64.wrap x) n).1), .pointer (some ⟨b, off, none⟩), undef] : Array Value).getD zz undef) (fun k e w => Mem (List.getD [boxC pw #[v, .func (.func (nf m)) #[.pointer (some ⟨pw, 0, none⟩)] #[], .bool σ.bad] :: tailC m v σ.bs :: boxE q b vs :: R, walkC m pw (num m σ (IntKind.u64.wrap x) n).2 :: boxE q b vs :: R, walkC m pw (num m σ (IntKind.u64.wrap x) n).2 :: boxE q b (over vs off [.int .u8 (IntKind.u8.wrap (num m σ (IntKind.u64.wrap x) n).1)]) :: R] k []) w) (fun _ => (0, undef)) [10, 13] [[], [], [1], [1, 2], [1, 2, 3], [], [5], [5, 6], [5, 6, 7], [], [1, 2, 3, 4, 5, 6, 7, 8, 9], [1, 2, 3, 4, 5, 6, 7, 8, 9, 10], [0, 1, 2, 3, 4, 5, 6, 7, 8, 9, 10, 11], [0, 1, 2, 3, 4, 5, 6, 7, 8, 9, 10, 11, 12]] [0, 0, 0, 0, 0, 0, 0, 0, 0, 0, 0, 1, 1, 1] [1, 0, 0, 0, 0, 0, 0, 0, 0, 0, 0, 1, 1, 1] (fun _ _ => false) hz0 (by kernel_rfl) (by kernel_rfl) (by kernel_rfl) (by kernel_rfl) (by kernel_rfl) ?_ (show Mem _ _ from hM0.drew) ?_ ?_
 · exact ⟨fun _ _ _ => rfl, fun _ _ _ => rfl, fun _ _ _ => rfl, fun _ _ _ => rfl, fun _ _ _ => rfl, fun _ _ _ => rfl, fun _ _ _ => rfl, fun _ _ _ => rfl, fun _ _ _ => rfl, fun _ _ _ => rfl, fun _ _ _ => rfl, fun _ _ _ => rfl, fun _ _ _ => rfl, fun _ _ _ => rfl, trivial⟩
 ·
  refine ⟨?_, ?_, ?_, ?_, ?_, ?_, ?_, ?_, ?_, ?_, ?_, ?_, ?_, ?_, trivial⟩
  ·
   intro zk e w ρ zhl zhh hO E
   obtain rfl | rfl : zk = 0 ∨ zk = 1 := by have h1 : 0 ≤ zk := zhl; have h2 : zk ≤ 1 := zhh; omega
   ·
    have e1 := E.o 1 _ rfl g1_0
    have hM : Mem _ w := hO
    refine (if_pos rfl).mpr ?_
    exact res_ok (x_move rfl (e1)) (goes_still rfl rfl hM)
   ·
    have e1 := E.o 1 _ rfl g1_0
    have hM : Mem _ w := hO
    refine (if_pos rfl).mpr ?_
    exact res_ok (x_move rfl (e1)) (goes_still rfl rfl hM)
  · exact op2 (a := 0) rfl fun e w ρ (hM : Mem _ w) E => res_ok (x_move rfl (E.o 0 _ rfl g0_0)) (goes_still rfl rfl hM)
  · exact op2 (a := 0) rfl fun e w ρ (hM : Mem _ w) E => res_ok (x_nil rfl (E.d 1 _ 7 rfl rfl rfl)) (goes_still rfl rfl hM)
  · exact op2 (a := 0) rfl fun e w ρ (hM : Mem _ w) E => res_ok (x_fieldAddr (off := 1) rfl (E.d 2 _ 8 rfl rfl rfl) (by kernel_rfl) rfl) (goes_still rfl rfl hM)
  · exact op2 (a := 0) rfl fun e w ρ (hM : Mem _ w) E => res_ok (x_load rfl (E.d 3 _ 9 rfl rfl rfl) (by kernel_rfl) ((hM.box 0 rfl).cell 1 rfl)) (goes_still rfl rfl hM)
  · exact op2 (a := 0) rfl fun e w ρ (hM : Mem _ w) E => res_ok (x_move rfl (E.o 1 _ rfl g1_0)) (goes_still rfl rfl hM)
  · exact op2 (a := 0) rfl fun e w ρ (hM : Mem _ w) E => res_ok (x_nil rfl (E.d 5 _ 11 rfl rfl rfl)) (goes_still rfl rfl hM)
  ·
   refine op2 (a := 0) rfl fun e w ρ (hM : Mem _ w) E => ?_
   have e12 : ρ (.tmp 12) = .pointer (some ⟨b, off, none⟩) := E.d 6 _ 12 rfl rfl rfl
   exact res_ok (x_load rfl (e12) (by kernel_rfl) ((hM.box 2 rfl).cell off hx)) (goes_still rfl rfl hM)
  · exact op2 (a := 0) rfl fun e w ρ (hM : Mem _ w) E => res_ok (x_conv rfl (E.d 7 _ 13 rfl rfl rfl) (by kernel_rfl) (by kernel_rfl) (rfl)) (goes_still rfl rfl hM)
  · exact op2 (a := 0) rfl fun e w ρ (hM : Mem _ w) E => res_ok (x_move rfl (E.o 2 _ rfl g2_0)) (goes_still rfl rfl hM)
  ·
   refine op2 (a := 0) rfl fun e w ρ (hM : Mem _ w) E => ?_
   have e10 : ρ (.tmp 10) = .func (.func (nf m)) #[.pointer (some ⟨pw, 0, none⟩)] #[] := E.d 4 _ 10 rfl rfl rfl
   have e14 : ρ (.tmp 14) = .int .u64 (IntKind.u64.wrap x) := E.d 8 _ 14 rfl rfl rfl
   have e15 : ρ (.tmp 15) = .int .i64 (n : Int) := E.d 9 _ 15 rfl rfl rfl
   refine res_in (x_call (args := #[.pointer (some ⟨pw, 0, none⟩), .int .u64 (IntKind.u64.wrap x), .int .i64 (n : Int)]) rfl rfl (e10) (by simp [e14, e15]) (nf_enters m)) ?_
   refine (num_at m pw σ (IntKind.u64.wrap x) n _ _ (walk_shut ((hM.front 1 rfl).front 1 rfl)) hv hn hb).mono ?_
   rintro e' w' ⟨rfl, hm⟩
   exact ⟨_, rfl, goes_tick rfl (0, undef) rfl hm⟩
  · exact op2 (a := 1) rfl fun e w ρ (hM : Mem _ w) E => res_ok (x_conv rfl (E.d 10 _ 16 rfl rfl rfl) (by kernel_rfl) (by kernel_rfl) (rfl)) (goes_still rfl rfl hM)
  · exact op2 (a := 1) rfl fun e w ρ (hM : Mem _ w) E => res_ok (x_nil rfl (E.d 0 _ 6 rfl rfl rfl)) (goes_still rfl rfl hM)
  ·
   refine op2 (a := 1) rfl fun e w ρ (hM : Mem _ w) E => ?_
   have e17 : ρ (.tmp 17) = .int .u8 (IntKind.u8.wrap (num m σ (IntKind.u64.wrap x) n).1) := E.d 11 _ 17 rfl rfl rfl
   have e18 : ρ (.tmp 18) = .pointer (some ⟨b, off, none⟩) := E.d 12 _ 18 rfl rfl rfl
   obtain ⟨w', hr, hm⟩ := Mem.store (P := Try.prog) hM 1 rfl 5 off (.int .u8 (IntKind.u8.wrap (num m σ (IntKind.u64.wrap x) n).1)) [.int .u8 (IntKind.u8.wrap (num m σ (IntKind.u64.wrap x) n).1)] rfl (by kernel_rfl) hoff rfl
   exact res_st (x_store rfl (e18) (e17) hr) (goes_tick rfl (0, undef) rfl hm)
 ·
  intro e a1 w1 hz1 hd hG hO hM
  have hd1 := hd.trans hd0
  have hM1 : Mem (walkC m pw (num m σ (IntKind.u64.wrap x) n).2 :: boxE q b (over vs off [.int .u8 (IntKind.u8.wrap (num m σ (IntKind.u64.wrap x) n).1)]) :: R) w1 := hM
  clear hM hG hO hd
  clear hz0 hd0 hM0 g0_0 g1_0 g2_0
  refine end_r ?_
  refine ret_0 Try.results40 hd1 ?_
  exact ⟨rfl, hM1⟩
set_option maxRecDepth 100000 in
set_option maxHeartbeats 2000000 in
theorem field_uint16 (m : Md) (pw : Nat) (σ : WS) (q : Option TypeId) (b off : Nat) (vs : Array Value) (x : Int) (n : Nat) (R : List Chunk) (w : World) (hM : Mem (walkC m pw σ :: boxE q b vs :: R) w) (hx : vs[off]? = some (.int .u16 x)) (hn : 1 ≤ n ∧ n ≤ 8) (hb : σ.bs.length ≤ 1000000) :
  Calls Try.prog 66 #[.pointer (some ⟨pw, 0, none⟩), .pointer (some ⟨b, off, none⟩), .int .i64 n] w fun e w' => e = .returned (.tuple #[]) ∧ Mem (walkC m pw (num m σ (IntKind.u64.wrap x) n).2 :: boxE q b (over vs off [.int .u16 (IntKind.u16.wrap (num m σ (IntKind.u64.wrap x) n).1)]) :: R) w' := by
 obtain ⟨v, hM⟩ := walk_open hM
 have hoff : off + 1 ≤ vs.size := (Array.getElem?_eq_some_iff.1 hx).1
 have hv : 0 ≤ IntKind.u64.wrap x ∧ IntKind.u64.wrap x ≤ 18446744073709551615 := by rw [IntKind.wrap_u64]; omega
 refine enter Try.func66 rfl Try.ntmps66 (Nat.le_of_ble_eq_true rfl) ?_
 intro a0 hz0 hd0 hg0
 have g0_0 : a0.tmps[0]? = some (.pointer (some ⟨pw, 0, none⟩)) := hg0 0 _ rfl
 have g1_0 : a0.tmps[1]? = some (.pointer (some ⟨b, off, none⟩)) := hg0 1 _ rfl
 have g2_0 : a0.tmps[2]? = some (.int .i64 (n : Int)) := hg0 2 _ rfl
 clear hg0
 have hM0 : Mem (boxC pw #[v, .func (.func (nf m)) #[.pointer (some ⟨pw, 0, none⟩)] #[], .bool σ.bad] :: tailC m v σ.bs :: boxE q b vs :: R) _ := hM
 refine region_draw 19 (fun zz e => (#[.pointer (some ⟨b, off, none⟩), .pointer (some ⟨pw, 0, none⟩), .pointer (some ⟨pw, 0, none⟩), .pointer (some ⟨pw, 1, none⟩), .func (.func (nf m)) #[.pointer (some ⟨pw, 0, none⟩)] #[], .pointer (some ⟨b, off, none⟩), .pointer (some ⟨b, off, none⟩), .int .u16 x, .int .u64 (IntKind.u64.wrap x), .int .i64 (n : Int), .int .u64 ((num m σ (IntKind.u64.wrap x) n).1), .int .u16 (IntKind.u16.wrap (num m σ (IntKind.u64.wrap x) n).1), .pointer (some ⟨b, off, none⟩), undef] : Array Value).getD zz undef) (fun k e w => Mem (List.getD [boxC pw #[v, .func (.func (nf m)) #[.pointer (some ⟨pw, 0, none⟩)] #[], .bool σ.bad] :: tailC m v σ.bs :: boxE q b vs :: R, walkC m pw (num m σ (IntKind.u64.wrap x) n).2 :: boxE q b vs :: R, walkC m pw (num m σ (IntKind.u64.wrap x) n).2 :: boxE q b (over vs off [.int .u16 (IntKind.u16.wrap (num m σ (IntKind.u64.wrap x) n).1)]) :: R] k []) w) (fun _ => (0, undef)) [10, 13] [[], [], [1], [1, 2], [1, 2, 3], [], [5], [5, 6], [5, 6, 7], [], [1, 2, 3, 4, 5, 6, 7, 8, 9], [1, 2, 3, 4, 5, 6, 7, 8, 9, 10], [0, 1, 2, 3, 4, 5, 6, 7, 8, 9, 10, 11], [0, 1, 2, 3, 4, 5, 6, 7, 8, 9, 10, 11, 12]] [0, 0, 0, 0, 0, 0, 0, 0, 0, 0, 0, 1, 1, 1] [1, 0, 0, 0, 0, 0, 0, 0, 0, 0, 0, 1, 1, 1] (fun _ _ => false) hz0 (by kernel_rfl) (by kernel_rfl) (by kernel_rfl) (by kernel_rfl) (by kernel_rfl) ?_ (show Mem _ _ from hM0.drew) ?_ ?_
 · exact ⟨fun _ _ _ => rfl, fun _ _ _ => rfl, fun _ _ _ => rfl, fun _ _ _ => rfl, fun _ _ _ => rfl, fun _ _ _ => rfl, fun _ _ _ => rfl, fun _ _ _ => rfl, fun _ _ _ => rfl, fun _ _ _ => rfl, fun _ _ _ => rfl, fun _ _ _ => rfl, fun _ _ _ => rfl, fun _ _ _ => rfl, trivial⟩
 ·
  refine ⟨?_, ?_, ?_, ?_, ?_, ?_, ?_, ?_, ?_, ?_, ?_, ?_, ?_, ?_, trivial⟩
  ·
   intro zk e w ρ zhl zhh hO E
   obtain rfl | rfl : zk = 0 ∨ zk = 1 := by have h1 : 0 ≤ zk := zhl; have h2 : zk ≤ 1 := zhh; omega
   ·
    have e1 := E.o 1 _ rfl g1_0
    have hM : Mem _ w := hO
    refine (if_pos rfl).mpr ?_
    exact res_ok (x_move rfl (e1)) (goes_still rfl rfl hM)
   ·
    have e1 := E.o 1 _ rfl g1_0
    have hM : Mem _ w := hO
    refine (if_pos rfl).mpr ?_
    exact res_ok (x_move rfl (e1)) (goes_still rfl rfl hM)
  · exact op2 (a := 0) rfl fun e w ρ (hM : Mem _ w) E => res_ok (x_move rfl (E.o 0 _ rfl g0_0)) (goes_still rfl rfl hM)
  · exact op2 (a := 0) rfl fun e w ρ (hM : Mem _ w) E => res_ok (x_nil rfl (E.d 1 _ 7 rfl rfl rfl)) (goes_still rfl rfl hM)
  · exact op2 (a := 0) rfl fun e w ρ (hM : Mem _ w) E => res_ok (x_fieldAddr (off := 1) rfl (E.d 2 _ 8 rfl rfl rfl) (by kernel_rfl) rfl) (goes_still rfl rfl hM)
  · exact op2 (a := 0) rfl fun e w ρ (hM : Mem _ w) E => res_ok (x_load rfl (E.d 3 _ 9 rfl rfl rfl) (by kernel_rfl) ((hM.box 0 rfl).cell 1 rfl)) (goes_still rfl rfl hM)
  · exact op2 (a := 0) rfl fun e w ρ (hM : Mem _ w) E => res_ok (x_move rfl (E.o 1 _ rfl g1_0)) (goes_still rfl rfl hM)
  · exact op2 (a := 0) rfl fun e w ρ (hM : Mem _ w) E => res_ok (x_nil rfl (E.d 5 _ 11 rfl rfl rfl)) (goes_still rfl rfl hM)
  ·
   refine op2 (a := 0) rfl fun e w ρ (hM : Mem _ w) E => ?_
   have e12 : ρ (.tmp 12) = .pointer (some ⟨b, off, none⟩) := E.d 6 _ 12 rfl rfl rfl
   exact res_ok (x_load rfl (e12) (by kernel_rfl) ((hM.box 2 rfl).cell off hx)) (goes_still rfl rfl hM)
  · exact op2 (a := 0) rfl fun e w ρ (hM : Mem _ w) E => res_ok (x_conv rfl (E.d 7 _ 13 rfl rfl rfl) (by kernel_rfl) (by kernel_rfl) (rfl)) (goes_still rfl rfl hM)
  · exact op2 (a := 0) rfl fun e w ρ (hM : Mem _ w) E => res_ok (x_move rfl (E.o 2 _ rfl g2_0)) (goes_still rfl rfl hM)
  ·
   refine op2 (a := 0) rfl fun e w ρ (hM : Mem _ w) E => ?_
   have e10 : ρ (.tmp 10) = .func (.func (nf m)) #[.pointer (some ⟨pw, 0, none⟩)] #[] := E.d 4 _ 10 rfl rfl rfl
   have e14 : ρ (.tmp 14) = .int .u64 (IntKind.u64.wrap x) := E.d 8 _ 14 rfl rfl rfl
   have e15 : ρ (.tmp 15) = .int .i64 (n : Int) := E.d 9 _ 15 rfl rfl rfl
   refine res_in (x_call (args := #[.pointer (some ⟨pw, 0, none⟩), .int .u64 (IntKind.u64.wrap x), .int .i64 (n : Int)]) rfl rfl (e10) (by simp [e14, e15]) (nf_enters m)) ?_
   refine (num_at m pw σ (IntKind.u64.wrap x) n _ _ (walk_shut ((hM.front 1 rfl).front 1 rfl)) hv hn hb).mono ?_
   rintro e' w' ⟨rfl, hm⟩
   exact ⟨_, rfl, goes_tick rfl (0, undef) rfl hm⟩
  · exact op2 (a := 1) rfl fun e w ρ (hM : Mem _ w) E => res_ok (x_conv rfl (E.d 10 _ 16 rfl rfl rfl) (by kernel_rfl) (by kernel_rfl) (rfl)) (goes_still rfl rfl hM)
  · exact op2 (a := 1) rfl fun e w ρ (hM : Mem _ w) E => res_ok (x_nil rfl (E.d 0 _ 6 rfl rfl rfl)) (goes_still rfl rfl hM)
  ·
   refine op2 (a := 1) rfl fun e w ρ (hM : Mem _ w) E => ?_
   have e17 : ρ (.tmp 17) = .int .u16 (IntKind.u16.wrap (num m σ (IntKind.u64.wrap x) n).1) := E.d 11 _ 17 rfl rfl rfl
   have e18 : ρ (.tmp 18) = .pointer (some ⟨b, off, none⟩) := E.d 12 _ 18 rfl rfl rfl
   obtain ⟨w', hr, hm⟩ := Mem.store (P := Try.prog) hM 1 rfl 33 off (.int .u16 (IntKind.u16.wrap (num m σ (IntKind.u64.wrap x) n).1)) [.int .u16 (IntKind.u16.wrap (num m σ (IntKind.u64.wrap x) n).1)] rfl (by kernel_rfl) hoff rfl
   exact res_st (x_store rfl (e18) (e17) hr) (goes_tick rfl (0, undef) rfl hm)
 ·
  intro e a1 w1 hz1 hd hG hO hM
  have hd1 := hd.trans hd0
  have hM1 : Mem (walkC m pw (num m σ (IntKind.u64.wrap x) n).2 :: boxE q b (over vs off [.int .u16 (IntKind.u16.wrap (num m σ (IntKind.u64.wrap x) n).1)]) :: R) w1 := hM
  clear hM hG hO hd
  clear hz0 hd0 hM0 g0_0 g1_0 g2_0
  refine end_r ?_
  refine ret_0 Try.results66 hd1 ?_
  exact ⟨rfl, hM1⟩
set_option maxRecDepth 100000 in
set_option maxHeartbeats 2000000 in
theorem field_uint32 (m : Md) (pw : Nat) (σ : WS) (q : Option TypeId) (b off : Nat) (vs : Array Value) (x : Int) (n : Nat) (R : List Chunk) (w : World) (hM : Mem (walkC m pw σ :: boxE q b vs :: R) w) (hx : vs[off]? = some (.int .u32 x)) (hn : 1 ≤ n ∧ n ≤ 8) (hb : σ.bs.length ≤ 1000000) :
  Calls Try.prog 62 #[.pointer (some ⟨pw, 0, none⟩), .pointer (some ⟨b, off, none⟩), .int .i64 n] w fun e w' => e = .returned (.tuple #[]) ∧ Mem (walkC m pw (num m σ (IntKind.u64.wrap x) n).2 :: boxE q b (over vs off [.int .u32 (IntKind.u32.wrap (num m σ (IntKind.u64.wrap x) n).1)]) :: R) w' := by
 obtain ⟨v, hM⟩ := walk_open hM
 have hoff : off + 1 ≤ vs.size := (Array.getElem?_eq_some_iff.1 hx).1
 have hv : 0 ≤ IntKind.u64.wrap x ∧ IntKind.u64.wrap x ≤ 18446744073709551615 := by rw [IntKind.wrap_u64]; omega
 refine enter Try.func62 rfl Try.ntmps62 (Nat.le_of_ble_eq_true rfl) ?_
 intro a0 hz0 hd0 hg0
 have g0_0 : a0.tmps[0]? = some (.pointer (some ⟨pw, 0, none⟩)) := hg0 0 _ rfl
 have g1_0 : a0.tmps[1]? = some (.pointer (some ⟨b, off, none⟩)) := hg0 1 _ rfl
 have g2_0 : a0.tmps[2]? = some (.int .i64 (n : Int)) := hg0 2 _ rfl
 clear hg0
 have hM0 : Mem (boxC pw #[v, .func (.func (nf m)) #[.pointer (some ⟨pw, 0, none⟩)] #[], .bool σ.bad] :: tailC m v σ.bs :: boxE q b vs :: R) _ := hM
 refine region_draw 19 (fun zz e => (#[.pointer (some ⟨b, off, none⟩), .pointer (some ⟨pw, 0, none⟩), .pointer (some ⟨pw, 0, none⟩), .pointer (some ⟨pw, 1, none⟩), .func (.func (nf m)) #[.pointer (some ⟨pw, 0, none⟩)] #[], .pointer (some ⟨b, off, none⟩), .pointer (some ⟨b, off, none⟩), .int .u32 x, .int .u64 (IntKind.u64.wrap x), .int .i64 (n : Int), .int .u64 ((num m σ (IntKind.u64.wrap x) n).1), .int .u32 (IntKind.u32.wrap (num m σ (IntKind.u64.wrap x) n).1), .pointer (some ⟨b, off, none⟩), undef] : Array Value).getD zz undef) (fun k e w => Mem (List.getD [boxC pw #[v, .func (.func (nf m)) #[.pointer (some ⟨pw, 0, none⟩)] #[], .bool σ.bad] :: tailC m v σ.bs :: boxE q b vs :: R, walkC m pw (num m σ (IntKind.u64.wrap x) n).2 :: boxE q b vs :: R, walkC m pw (num m σ (IntKind.u64.wrap x) n).2 :: boxE q b (over vs off [.int .u32 (IntKind.u32.wrap (num m σ (IntKind.u64.wrap x) n).1)]) :: R] k []) w) (fun _ => (0, undef)) [10, 13] [[], [], [1], [1, 2], [1, 2, 3], [], [5], [5, 6], [5, 6, 7], [], [1, 2, 3, 4, 5, 6, 7, 8, 9], [1, 2, 3, 4, 5, 6, 7, 8, 9, 10], [0, 1, 2, 3, 4, 5, 6, 7, 8, 9, 10, 11], [0, 1, 2, 3, 4, 5, 6, 7, 8, 9, 10, 11, 12]] [0, 0, 0, 0, 0, 0, 0, 0, 0, 0, 0, 1, 1, 1] [1, 0, 0, 0, 0, 0, 0, 0, 0, 0, 0, 1, 1, 1] (fun _ _ => false) hz0 (by kernel_rfl) (by kernel_rfl) (by kernel_rfl) (by kernel_rfl) (by kernel_rfl) ?_ (show Mem _ _ from hM0.drew) ?_ ?_
 · exact ⟨fun _ _ _ => rfl, fun _ _ _ => rfl, fun _ _ _ => rfl, fun _ _ _ => rfl, fun _ _ _ => rfl, fun _ _ _ => rfl, fun _ _ _ => rfl, fun _ _ _ => rfl, fun _ _ _ => rfl, fun _ _ _ => rfl, fun _ _ _ => rfl, fun _ _ _ => rfl, fun _ _ _ => rfl, fun _ _ _ => rfl, trivial⟩
 ·
  refine ⟨?_, ?_, ?_, ?_, ?_, ?_, ?_, ?_, ?_, ?_, ?_, ?_, ?_, ?_, trivial⟩
  ·
   intro zk e w ρ zhl zhh hO E
   obtain rfl | rfl : zk = 0 ∨ zk = 1 := by have h1 : 0 ≤ zk := zhl; have h2 : zk ≤ 1 := zhh; omega
   ·
    have e1 := E.o 1 _ rfl g1_0
    have hM : Mem _ w := hO
    refine (if_pos rfl).mpr ?_
    exact res_ok (x_move rfl (e1)) (goes_still rfl rfl hM)
   ·
    have e1 := E.o 1 _ rfl g1_0
    have hM : Mem _ w := hO
    refine (if_pos rfl).mpr ?_
    exact res_ok (x_move rfl (e1)) (goes_still rfl rfl hM)
  · exact op2 (a := 0) rfl fun e w ρ (hM : Mem _ w) E => res_ok (x_move rfl (E.o 0 _ rfl g0_0)) (goes_still rfl rfl hM)
  · exact op2 (a := 0) rfl fun e w ρ (hM : Mem _ w) E => res_ok (x_nil rfl (E.d 1 _ 7 rfl rfl rfl)) (goes_still rfl rfl hM)
  · exact op2 (a := 0) rfl fun e w ρ (hM : Mem _ w) E => res_ok (x_fieldAddr (off := 1) rfl (E.d 2 _ 8 rfl rfl rfl) (by kernel_rfl) rfl) (goes_still rfl rfl hM)
  · exact op2 (a := 0) rfl fun e w ρ (hM : Mem _ w) E => res_ok (x_load rfl (E.d 3 _ 9 rfl rfl rfl) (by kernel_rfl) ((hM.box 0 rfl).cell 1 rfl)) (goes_still rfl rfl hM)
  · exact op2 (a := 0) rfl fun e w ρ (hM : Mem _ w) E => res_ok (x_move rfl (E.o 1 _ rfl g1_0)) (goes_still rfl rfl hM)
  · exact op2 (a := 0) rfl fun e w ρ (hM : Mem _ w) E => res_ok (x_nil rfl (E.d 5 _ 11 rfl rfl rfl)) (goes_still rfl rfl hM)
  ·
   refine op2 (a := 0) rfl fun e w ρ (hM : Mem _ w) E => ?_
   have e12 : ρ (.tmp 12) = .pointer (some ⟨b, off, none⟩) := E.d 6 _ 12 rfl rfl rfl
   exact res_ok (x_load rfl (e12) (by kernel_rfl) ((hM.box 2 rfl).cell off hx)) (goes_still rfl rfl hM)
  · exact op2 (a := 0) rfl fun e w ρ (hM : Mem _ w) E => res_ok (x_conv rfl (E.d 7 _ 13 rfl rfl rfl) (by kernel_rfl) (by kernel_rfl) (rfl)) (goes_still rfl rfl hM)
  · exact op2 (a := 0) rfl fun e w ρ (hM : Mem _ w) E => res_ok (x_move rfl (E.o 2 _ rfl g2_0)) (goes_still rfl rfl hM)
  ·
   refine op2 (a := 0) rfl fun e w ρ (hM : Mem _ w) E => ?_
   have e10 : ρ (.tmp 10) = .func (.func (nf m)) #[.pointer (some ⟨pw, 0, none⟩)] #[] := E.d 4 _ 10 rfl rfl rfl
   have e14 : ρ (.tmp 14) = .int .u64 (IntKind.u64.wrap x) := E.d 8 _ 14 rfl rfl rfl
   have e15 : ρ (.tmp 15) = .int .i64 (n : Int) := E.d 9 _ 15 rfl rfl rfl
   refine res_in (x_call (args := #[.pointer (some ⟨pw, 0, none⟩), .int .u64 (IntKind.u64.wrap x), .int .i64 (n : Int)]) rfl rfl (e10) (by simp [e14, e15]) (nf_enters m)) ?_
   refine (num_at m pw σ (IntKind.u64.wrap x) n _ _ (walk_shut ((hM.front 1 rfl).front 1 rfl)) hv hn hb).mono ?_
   rintro e' w' ⟨rfl, hm⟩
   exact ⟨_, rfl, goes_tick rfl (0, undef) rfl hm⟩
  · exact op2 (a := 1) rfl fun e w ρ (hM : Mem _ w) E => res_ok (x_conv rfl (E.d 10 _ 16 rfl rfl rfl) (by kernel_rfl) (by kernel_rfl) (rfl)) (goes_still rfl rfl hM)
  · exact op2 (a := 1) rfl fun e w ρ (hM : Mem _ w) E => res_ok (x_nil rfl (E.d 0 _ 6 rfl rfl rfl)) (goes_still rfl rfl hM)
  ·
   refine op2 (a := 1) rfl fun e w ρ (hM : Mem _ w) E => ?_
   have e17 : ρ (.tmp 17) = .int .u32 (IntKind.u32.wrap (num m σ (IntKind.u64.wrap x) n).1) := E.d 11 _ 17 rfl rfl rfl
   have e18 : ρ (.tmp 18) = .pointer (some ⟨b, off, none⟩) := E.d 12 _ 18 rfl rfl rfl
   obtain ⟨w', hr, hm⟩ := Mem.store (P := Try.prog) hM 1 rfl 34 off (.int .u32 (IntKind.u32.wrap (num m σ (IntKind.u64.wrap x) n).1)) [.int .u32 (IntKind.u32.wrap (num m σ (IntKind.u64.wrap x) n).1)] rfl (by kernel_rfl) hoff rfl
   exact res_st (x_store rfl (e18) (e17) hr) (goes_tick rfl (0, undef) rfl hm)
 ·
  intro e a1 w1 hz1 hd hG hO hM
  have hd1 := hd.trans hd0
  have hM1 : Mem (walkC m pw (num m σ (IntKind.u64.wrap x) n).2 :: boxE q b (over vs off [.int .u32 (IntKind.u32.wrap (num m σ (IntKind.u64.wrap x) n).1)]) :: R) w1 := hM
  clear hM hG hO hd
  clear hz0 hd0 hM0 g0_0 g1_0 g2_0
  refine end_r ?_
  refine ret_0 Try.results62 hd1 ?_
  exact ⟨rfl, hM1⟩
set_option maxRecDepth 100000 in
set_option maxHeartbeats 2000000 in
theorem field_uint64 (m : Md) (pw : Nat) (σ : WS) (q : Option TypeId) (b off : Nat) (vs : Array Value) (x : Int) (n : Nat) (R : List Chunk) (w : World) (hM : Mem (walkC m pw σ :: boxE q b vs :: R) w) (hx : vs[off]? = some (.int .u64 x)) (hn : 1 ≤ n ∧ n ≤ 8) (hb : σ.bs.length ≤ 1000000) (hv : 0 ≤ x ∧ x ≤ 18446744073709551615) :
  Calls Try.prog 42 #[.pointer (some ⟨pw, 0, none⟩), .pointer (some ⟨b, off, none⟩), .int .i64 n] w fun e w' => e = .returned (.tuple #[]) ∧ Mem (walkC m pw (num m σ (x) n).2 :: boxE q b (over vs off [.int .u64 ((num m σ x n).1)]) :: R) w' := by
 obtain ⟨v, hM⟩ := walk_open hM
 have hoff : off + 1 ≤ vs.size := (Array.getElem?_eq_some_iff.1 hx).1
 refine enter Try.func42 rfl Try.ntmps42 (Nat.le_of_ble_eq_true rfl) ?_
 intro a0 hz0 hd0 hg0
 have g0_0 : a0.tmps[0]? = some (.pointer (some ⟨pw, 0, none⟩)) := hg0 0 _ rfl
 have g1_0 : a0.tmps[1]? = some (.pointer (some ⟨b, off, none⟩)) := hg0 1 _ rfl
 have g2_0 : a0.tmps[2]? = some (.int .i64 (n : Int)) := hg0 2 _ rfl
 clear hg0
 have hM0 : Mem (boxC pw #[v, .func (.func (nf m)) #[.pointer (some ⟨pw, 0, none⟩)] #[], .bool σ.bad] :: tailC m v σ.bs :: boxE q b vs :: R) _ := hM
 refine region_draw 17 (fun zz e => (#[.pointer (some ⟨b, off, none⟩), .pointer (some ⟨pw, 0, none⟩), .pointer (some ⟨pw, 0, none⟩), .pointer (some ⟨pw, 1, none⟩), .func (.func (nf m)) #[.pointer (some ⟨pw, 0, none⟩)] #[], .pointer (some ⟨b, off, none⟩), .pointer (some ⟨b, off, none⟩), .int .u64 x, .int .i64 (n : Int), .int .u64 ((num m σ (x) n).1), .pointer (some ⟨b, off, none⟩), undef] : Array Value).getD zz undef) (fun k e w => Mem (List.getD [boxC pw #[v, .func (.func (nf m)) #[.pointer (some ⟨pw, 0, none⟩)] #[], .bool σ.bad] :: tailC m v σ.bs :: boxE q b vs :: R, walkC m pw (num m σ (x) n).2 :: boxE q b vs :: R, walkC m pw (num m σ (x) n).2 :: boxE q b (over vs off [.int .u64 ((num m σ x n).1)]) :: R] k []) w) (fun _ => (0, undef)) [9, 11] [[], [], [1], [1, 2], [1, 2, 3], [], [5], [5, 6], [], [1, 2, 3, 4, 5, 6, 7, 8], [0, 1, 2, 3, 4, 5, 6, 7, 8, 9], [0, 1, 2, 3, 4, 5, 6, 7, 8, 9, 10]] [0, 0, 0, 0, 0, 0, 0, 0, 0, 0, 1, 1] [1, 0, 0, 0, 0, 0, 0, 0, 0, 0, 1, 1] (fun _ _ => false) hz0 (by kernel_rfl) (by kernel_rfl) (by kernel_rfl) (by kernel_rfl) (by kernel_rfl) ?_ (show Mem _ _ from hM0.drew) ?_ ?_
 · exact ⟨fun _ _ _ => rfl, fun _ _ _ => rfl, fun _ _ _ => rfl, fun _ _ _ => rfl, fun _ _ _ => rfl, fun _ _ _ => rfl, fun _ _ _ => rfl, fun _ _ _ => rfl, fun _ _ _ => rfl, fun _ _ _ => rfl, fun _ _ _ => rfl, fun _ _ _ => rfl, trivial⟩
 ·
  refine ⟨?_, ?_, ?_, ?_, ?_, ?_, ?_, ?_, ?_, ?_, ?_, ?_, trivial⟩
  ·
   intro zk e w ρ zhl zhh hO E
   obtain rfl | rfl : zk = 0 ∨ zk = 1 := by have h1 : 0 ≤ zk := zhl; have h2 : zk ≤ 1 := zhh; omega
   ·
    have e1 := E.o 1 _ rfl g1_0
    have hM : Mem _ w := hO
    refine (if_pos rfl).mpr ?_
    exact res_ok (x_move rfl (e1)) (goes_still rfl rfl hM)
   ·
    have e1 := E.o 1 _ rfl g1_0
    have hM : Mem _ w := hO
    refine (if_pos rfl).mpr ?_
    exact res_ok (x_move rfl (e1)) (goes_still rfl rfl hM)
  · exact op2 (a := 0) rfl fun e w ρ (hM : Mem _ w) E => res_ok (x_move rfl (E.o 0 _ rfl g0_0)) (goes_still rfl rfl hM)
  · exact op2 (a := 0) rfl fun e w ρ (hM : Mem _ w) E => res_ok (x_nil rfl (E.d 1 _ 7 rfl rfl rfl)) (goes_still rfl rfl hM)
  · exact op2 (a := 0) rfl fun e w ρ (hM : Mem _ w) E => res_ok (x_fieldAddr (off := 1) rfl (E.d 2 _ 8 rfl rfl rfl) (by kernel_rfl) rfl) (goes_still rfl rfl hM)
  · exact op2 (a := 0) rfl fun e w ρ (hM : Mem _ w) E => res_ok (x_load rfl (E.d 3 _ 9 rfl rfl rfl) (by kernel_rfl) ((hM.box 0 rfl).cell 1 rfl)) (goes_still rfl rfl hM)
  · exact op2 (a := 0) rfl fun e w ρ (hM : Mem _ w) E => res_ok (x_move rfl (E.o 1 _ rfl g1_0)) (goes_still rfl rfl hM)
  · exact op2 (a := 0) rfl fun e w ρ (hM : Mem _ w) E => res_ok (x_nil rfl (E.d 5 _ 11 rfl rfl rfl)) (goes_still rfl rfl hM)
  ·
   refine op2 (a := 0) rfl fun e w ρ (hM : Mem _ w) E => ?_
   have e12 : ρ (.tmp 12) = .pointer (some ⟨b, off, none⟩) := E.d 6 _ 12 rfl rfl rfl
   exact res_ok (x_load rfl (e12) (by kernel_rfl) ((hM.box 2 rfl).cell off hx)) (goes_still rfl rfl hM)
  · exact op2 (a := 0) rfl fun e w ρ (hM : Mem _ w) E => res_ok (x_move rfl (E.o 2 _ rfl g2_0)) (goes_still rfl rfl hM)
  ·
   refine op2 (a := 0) rfl fun e w ρ (hM : Mem _ w) E => ?_
   have e10 : ρ (.tmp 10) = .func (.func (nf m)) #[.pointer (some ⟨pw, 0, none⟩)] #[] := E.d 4 _ 10 rfl rfl rfl
   have e13 : ρ (.tmp 13) = .int .u64 x := E.d 7 _ 13 rfl rfl rfl
   have e14 : ρ (.tmp 14) = .int .i64 (n : Int) := E.d 8 _ 14 rfl rfl rfl
   refine res_in (x_call (args := #[.pointer (some ⟨pw, 0, none⟩), .int .u64 x, .int .i64 (n : Int)]) rfl rfl (e10) (by simp [e13, e14]) (nf_enters m)) ?_
   refine (num_at m pw σ (x) n _ _ (walk_shut ((hM.front 1 rfl).front 1 rfl)) hv hn hb).mono ?_
   rintro e' w' ⟨rfl, hm⟩
   exact ⟨_, rfl, goes_tick rfl (0, undef) rfl hm⟩
  · exact op2 (a := 1) rfl fun e w ρ (hM : Mem _ w) E => res_ok (x_nil rfl (E.d 0 _ 6 rfl rfl rfl)) (goes_still rfl rfl hM)
  ·
   refine op2 (a := 1) rfl fun e w ρ (hM : Mem _ w) E => ?_
   have e15 : ρ (.tmp 15) = .int .u64 ((num m σ (x) n).1) := E.d 9 _ 15 rfl rfl rfl
   have e16 : ρ (.tmp 16) = .pointer (some ⟨b, off, none⟩) := E.d 10 _ 16 rfl rfl rfl
   obtain ⟨w', hr, hm⟩ := Mem.store (P := Try.prog) hM 1 rfl 22 off (.int .u64 ((num m σ x n).1)) [.int .u64 ((num m σ x n).1)] rfl (by kernel_rfl) hoff rfl
   exact res_st (x_store rfl (e16) (e15) hr) (goes_tick rfl (0, undef) rfl hm)
 ·
  intro e a1 w1 hz1 hd hG hO hM
  have hd1 := hd.trans hd0
  have hM1 : Mem (walkC m pw (num m σ (x) n).2 :: boxE q b (over vs off [.int .u64 ((num m σ x n).1)]) :: R) w1 := hM
  clear hM hG hO hd
  clear hz0 hd0 hM0 g0_0 g1_0 g2_0
  refine end_r ?_
  refine ret_0 Try.results42 hd1 ?_
  exact ⟨rfl, hM1⟩
set_option maxRecDepth 100000 in
set_option maxHeartbeats 2000000 in
theorem field_int64 (m : Md) (pw : Nat) (σ : WS) (q : Option TypeId) (b off : Nat) (vs : Array Value) (x : Int) (n : Nat) (R : List Chunk) (w : World) (hM : Mem (walkC m pw σ :: boxE q b vs :: R) w) (hx : vs[off]? = some (.int .i64 x)) (hn : 1 ≤ n ∧ n ≤ 8) (hb : σ.bs.length ≤ 1000000) :
  Calls Try.prog 55 #[.pointer (some ⟨pw, 0, none⟩), .pointer (some ⟨b, off, none⟩), .int .i64 n] w fun e w' => e = .returned (.tuple #[]) ∧ Mem (walkC m pw (num m σ (IntKind.u64.wrap x) n).2 :: boxE q b (over vs off [.int .i64 (IntKind.i64.wrap (num m σ (IntKind.u64.wrap x) n).1)]) :: R) w' := by
 obtain ⟨v, hM⟩ := walk_open hM
 have hoff : off + 1 ≤ vs.size := (Array.getElem?_eq_some_iff.1 hx).1
 have hv : 0 ≤ IntKind.u64.wrap x ∧ IntKind.u64.wrap x ≤ 18446744073709551615 := by rw [IntKind.wrap_u64]; omega
 refine enter Try.func55 rfl Try.ntmps55 (Nat.le_of_ble_eq_true rfl) ?_
 intro a0 hz0 hd0 hg0
 have g0_0 : a0.tmps[0]? = some (.pointer (some ⟨pw, 0, none⟩)) := hg0 0 _ rfl
 have g1_0 : a0.tmps[1]? = some (.pointer (some ⟨b, off, none⟩)) := hg0 1 _ rfl
 have g2_0 : a0.tmps[2]? = some (.int .i64 (n : Int)) := hg0 2 _ rfl
 clear hg0
 have hM0 : Mem (boxC pw #[v, .func (.func (nf m)) #[.pointer (some ⟨pw, 0, none⟩)] #[], .bool σ.bad] :: tailC m v σ.bs :: boxE q b vs :: R) _ := hM
 refine region_draw 19 (fun zz e => (#[.pointer (some ⟨b, off, none⟩), .pointer (some ⟨pw, 0, none⟩), .pointer (some ⟨pw, 0, none⟩), .pointer (some ⟨pw, 1, none⟩), .func (.func (nf m)) #[.pointer (some ⟨pw, 0, none⟩)] #[], .pointer (some ⟨b, off, none⟩), .pointer (some ⟨b, off, none⟩), .int .i64 x, .int .u64 (IntKind.u64.wrap x), .int .i64 (n : Int), .int .u64 ((num m σ (IntKind.u64.wrap x) n).1), .int .i64 (IntKind.i64.wrap (num m σ (IntKind.u64.wrap x) n).1), .pointer (some ⟨b, off, none⟩), undef] : Array Value).getD zz undef) (fun k e w => Mem (List.getD [boxC pw #[v, .func (.func (nf m)) #[.pointer (some ⟨pw, 0, none⟩)] #[], .bool σ.bad] :: tailC m v σ.bs :: boxE q b vs :: R, walkC m pw (num m σ (IntKind.u64.wrap x) n).2 :: boxE q b vs :: R, walkC m pw (num m σ (IntKind.u64.wrap x) n).2 :: boxE q b (over vs off [.int .i64 (IntKind.i64.wrap (num m σ (IntKind.u64.wrap x) n).1)]) :: R] k []) w) (fun _ => (0, undef)) [10, 13] [[], [], [1], [1, 2], [1, 2, 3], [], [5], [5, 6], [5, 6, 7], [], [1, 2, 3, 4, 5, 6, 7, 8, 9], [1, 2, 3, 4, 5, 6, 7, 8, 9, 10], [0, 1, 2, 3, 4, 5, 6, 7, 8, 9, 10, 11], [0, 1, 2, 3, 4, 5, 6, 7, 8, 9, 10, 11, 12]] [0, 0, 0, 0, 0, 0, 0, 0, 0, 0, 0, 1, 1, 1] [1, 0, 0, 0, 0, 0, 0, 0, 0, 0, 0, 1, 1, 1] (fun _ _ => false) hz0 (by kernel_rfl) (by kernel_rfl) (by kernel_rfl) (by kernel_rfl) (by kernel_rfl) ?_ (show Mem _ _ from hM0.drew) ?_ ?_
 · exact ⟨fun _ _ _ => rfl, fun _ _ _ => rfl, fun _ _ _ => rfl, fun _ _ _ => rfl, fun _ _ _ => rfl, fun _ _ _ => rfl, fun _ _ _ => rfl, fun _ _ _ => rfl, fun _ _ _ => rfl, fun _ _ _ => rfl, fun _ _ _ => rfl, fun _ _ _ => rfl, fun _ _ _ => rfl, fun _ _ _ => rfl, trivial⟩
 ·
  refine ⟨?_, ?_, ?_, ?_, ?_, ?_, ?_, ?_, ?_, ?_, ?_, ?_, ?_, ?_, trivial⟩
  ·
   intro zk e w ρ zhl zhh hO E
   obtain rfl | rfl : zk = 0 ∨ zk = 1 := by have h1 : 0 ≤ zk := zhl; have h2 : zk ≤ 1 := zhh; omega
   ·
    have e1 := E.o 1 _ rfl g1_0
    have hM : Mem _ w := hO
    refine (if_pos rfl).mpr ?_
    exact res_ok (x_move rfl (e1)) (goes_still rfl rfl hM)
   ·
    have e1 := E.o 1 _ rfl g1_0
    have hM : Mem _ w := hO
    refine (if_pos rfl).mpr ?_
    exact res_ok (x_move rfl (e1)) (goes_still rfl rfl hM)
  · exact op2 (a := 0) rfl fun e w ρ (hM : Mem _ w) E => res_ok (x_move rfl (E.o 0 _ rfl g0_0)) (goes_still rfl rfl hM)
  · exact op2 (a := 0) rfl fun e w ρ (hM : Mem _ w) E => res_ok (x_nil rfl (E.d 1 _ 7 rfl rfl rfl)) (goes_still rfl rfl hM)
  · exact op2 (a := 0) rfl fun e w ρ (hM : Mem _ w) E => res_ok (x_fieldAddr (off := 1) rfl (E.d 2 _ 8 rfl rfl rfl) (by kernel_rfl) rfl) (goes_still rfl rfl hM)
  · exact op2 (a := 0) rfl fun e w ρ (hM : Mem _ w) E => res_ok (x_load rfl (E.d 3 _ 9 rfl rfl rfl) (by kernel_rfl) ((hM.box 0 rfl).cell 1 rfl)) (goes_still rfl rfl hM)
  · exact op2 (a := 0) rfl fun e w ρ (hM : Mem _ w) E => res_ok (x_move rfl (E.o 1 _ rfl g1_0)) (goes_still rfl rfl hM)
  · exact op2 (a := 0) rfl fun e w ρ (hM : Mem _ w) E => res_ok (x_nil rfl (E.d 5 _ 11 rfl rfl rfl)) (goes_still rfl rfl hM)
  ·
   refine op2 (a := 0) rfl fun e w ρ (hM : Mem _ w) E => ?_
   have e12 : ρ (.tmp 12) = .pointer (some ⟨b, off, none⟩) := E.d 6 _ 12 rfl rfl rfl
   exact res_ok (x_load rfl (e12) (by kernel_rfl) ((hM.box 2 rfl).cell off hx)) (goes_still rfl rfl hM)
  · exact op2 (a := 0) rfl fun e w ρ (hM : Mem _ w) E => res_ok (x_conv rfl (E.d 7 _ 13 rfl rfl rfl) (by kernel_rfl) (by kernel_rfl) (rfl)) (goes_still rfl rfl hM)
  · exact op2 (a := 0) rfl fun e w ρ (hM : Mem _ w) E => res_ok (x_move rfl (E.o 2 _ rfl g2_0)) (goes_still rfl rfl hM)
  ·
   refine op2 (a := 0) rfl fun e w ρ (hM : Mem _ w) E => ?_
   have e10 : ρ (.tmp 10) = .func (.func (nf m)) #[.pointer (some ⟨pw, 0, none⟩)] #[] := E.d 4 _ 10 rfl rfl rfl
   have e14 : ρ (.tmp 14) = .int .u64 (IntKind.u64.wrap x) := E.d 8 _ 14 rfl rfl rfl
   have e15 : ρ (.tmp 15) = .int .i64 (n : Int) := E.d 9 _ 15 rfl rfl rfl
   refine res_in (x_call (args := #[.pointer (some ⟨pw, 0, none⟩), .int .u64 (IntKind.u64.wrap x), .int .i64 (n : Int)]) rfl rfl (e10) (by simp [e14, e15]) (nf_enters m)) ?_
   refine (num_at m pw σ (IntKind.u64.wrap x) n _ _ (walk_shut ((hM.front 1 rfl).front 1 rfl)) hv hn hb).mono ?_
   rintro e' w' ⟨rfl, hm⟩
   exact ⟨_, rfl, goes_tick rfl (0, undef) rfl hm⟩
  · exact op2 (a := 1) rfl fun e w ρ (hM : Mem _ w) E => res_ok (x_conv rfl (E.d 10 _ 16 rfl rfl rfl) (by kernel_rfl) (by kernel_rfl) (rfl)) (goes_still rfl rfl hM)
  · exact op2 (a := 1) rfl fun e w ρ (hM : Mem _ w) E => res_ok (x_nil rfl (E.d 0 _ 6 rfl rfl rfl)) (goes_still rfl rfl hM)
  ·
   refine op2 (a := 1) rfl fun e w ρ (hM : Mem _ w) E => ?_
   have e17 : ρ (.tmp 17) = .int .i64 (IntKind.i64.wrap (num m σ (IntKind.u64.wrap x) n).1) := E.d 11 _ 17 rfl rfl rfl
   have e18 : ρ (.tmp 18) = .pointer (some ⟨b, off, none⟩) := E.d 12 _ 18 rfl rfl rfl
   obtain ⟨w', hr, hm⟩ := Mem.store (P := Try.prog) hM 1 rfl 2 off (.int .i64 (IntKind.i64.wrap (num m σ (IntKind.u64.wrap x) n).1)) [.int .i64 (IntKind.i64.wrap (num m σ (IntKind.u64.wrap x) n).1)] rfl (by kernel_rfl) hoff rfl
   exact res_st (x_store rfl (e18) (e17) hr) (goes_tick rfl (0, undef) rfl hm)
 ·
  intro e a1 w1 hz1 hd hG hO hM
  have hd1 := hd.trans hd0
  have hM1 : Mem (walkC m pw (num m σ (IntKind.u64.wrap x) n).2 :: boxE q b (over vs off [.int .i64 (IntKind.i64.wrap (num m σ (IntKind.u64.wrap x) n).1)]) :: R) w1 := hM
  clear hM hG hO hd
  clear hz0 hd0 hM0 g0_0 g1_0 g2_0
  refine end_r ?_
  refine ret_0 Try.results55 hd1 ?_
  exact ⟨rfl, hM1⟩
set_option maxRecDepth 100000 in
set_option maxHeartbeats 2000000 in
theorem field_Status (m : Md) (pw : Nat) (σ : WS) (q : Option TypeId) (b off : Nat) (vs : Array Value) (x : Int) (n : Nat) (R : List Chunk) (w : World) (hM : Mem (walkC m pw σ :: boxE q b vs :: R) w) (hx : vs[off]? = some (.int .u8 x)) (hn : 1 ≤ n ∧ n ≤ 8) (hb : σ.bs.length ≤ 1000000) :
  Calls Try.prog 61 #[.pointer (some ⟨pw, 0, none⟩), .pointer (some ⟨b, off, none⟩), .int .i64 n] w fun e w' => e = .returned (.tuple #[]) ∧ Mem (walkC m pw (num m σ (IntKind.u64.wrap x) n).2 :: boxE q b (over vs off [.int .u8 (IntKind.u8.wrap (num m σ (IntKind.u64.wrap x) n).1)]) :: R) w' := by
 obtain ⟨v, hM⟩ := walk_open hM
 have hoff : off + 1 ≤ vs.size := (Array.getElem?_eq_some_iff.1 hx).1
 have hv : 0 ≤ IntKind.u64.wrap x ∧ IntKind.u64.wrap x ≤ 18446744073709551615 := by rw [IntKind.wrap_u64]; omega
 refine enter Try.func61 rfl Try.ntmps61 (Nat.le_of_ble_eq_true rfl) ?_
 intro a0 hz0 hd0 hg0
 have g0_0 : a0.tmps[0]? = some (.pointer (some ⟨pw, 0, none⟩)) := hg0 0 _ rfl
 have g1_0 : a0.tmps[1]? = some (.pointer (some ⟨b, off, none⟩)) := hg0 1 _ rfl
 have g2_0 : a0.tmps[2]? = some (.int .i64 (n : Int)) := hg0 2 _ rfl
 clear hg0
 have hM0 : Mem (boxC pw #[v, .func (.func (nf m)) #[.pointer (some ⟨pw, 0, none⟩)] #[], .bool σ.bad] :: tailC m v σ.bs :: boxE q b vs :: R) _ := hM
 refine region_draw 19 (fun zz e => (#[.pointer (some ⟨b, off, none⟩), .pointer (some ⟨pw, 0, none⟩), .pointer (some ⟨pw, 0, none⟩), .pointer (some ⟨pw, 1, none⟩), .func (.func (nf m)) #[.pointer (some ⟨pw, 0, none⟩)] #[], .pointer (some ⟨b, off, none⟩), .pointer (some ⟨b, off, none⟩), .int .u8 x, .int .u64 (IntKind.u64.wrap x), .int .i64 (n : Int), .int .u64 ((num m σ (IntKind.u64.wrap x) n).1), .int .u8 (IntKind.u8.wrap (num m σ (IntKind.u64.wrap x) n).1), .pointer (some ⟨b, off, none⟩), undef] : Array Value).getD zz undef) (fun k e w => Mem (List.getD [boxC pw #[v, .func (.func (nf m)) #[.pointer (some ⟨pw, 0, none⟩)] #[], .bool σ.bad] :: tailC m v σ.bs :: boxE q b vs :: R, walkC m pw (num m σ (IntKind.u64.wrap x) n).2 :: boxE q b vs :: R, walkC m pw (num m σ (IntKind.u64.wrap x) n).2 :: boxE q b (over vs off [.int .u8 (IntKind.u8.wrap (num m σ (IntKind.u64.wrap x) n).1)]) :: R] k []) w) (fun _ => (0, undef)) [10, 13] [[], [], [1], [1, 2], [1, 2, 3], [], [5], [5, 6], [5, 6, 7], [], [1, 2, 3, 4, 5, 6, 7, 8, 9], [1, 2, 3, 4, 5, 6, 7, 8, 9, 10], [0, 1, 2, 3, 4, 5, 6, 7, 8, 9, 10, 11], [0, 1, 2, 3, 4, 5, 6, 7, 8, 9, 10, 11, 12]] [0, 0, 0, 0, 0, 0, 0, 0, 0, 0, 0, 1, 1, 1] [1, 0, 0, 0, 0, 0, 0, 0, 0, 0, 0, 1, 1, 1] (fun _ _ => false) hz0 (by kernel_rfl) (by kernel_rfl) (by kernel_rfl) (by kernel_rfl) (by kernel_rfl) ?_ (show Mem _ _ from hM0.drew) ?_ ?_
 · exact ⟨fun _ _ _ => rfl, fun _ _ _ => rfl, fun _ _ _ => rfl, fun _ _ _ => rfl, fun _ _ _ => rfl, fun _ _ _ => rfl, fun _ _ _ => rfl, fun _ _ _ => rfl, fun _ _ _ => rfl, fun _ _ _ => rfl, fun _ _ _ => rfl, fun _ _ _ => rfl, fun _ _ _ => rfl, fun _ _ _ => rfl, trivial⟩
 ·
  refine ⟨?_, ?_, ?_, ?_, ?_, ?_, ?_, ?_, ?_, ?_, ?_, ?_, ?_, ?_, trivial⟩
  ·
   intro zk e w ρ zhl zhh hO E
   obtain rfl | rfl : zk = 0 ∨ zk = 1 := by have h1 : 0 ≤ zk := zhl; have h2 : zk ≤ 1 := zhh; omega
   ·
    have e1 := E.o 1 _ rfl g1_0
    have hM : Mem _ w := hO
    refine (if_pos rfl).mpr ?_
    exact res_ok (x_move rfl (e1)) (goes_still rfl rfl hM)
   ·
    have e1 := E.o 1 _ rfl g1_0
    have hM : Mem _ w := hO
    refine (if_pos rfl).mpr ?_
    exact res_ok (x_move rfl (e1)) (goes_still rfl rfl hM)
  · exact op2 (a := 0) rfl fun e w ρ (hM : Mem _ w) E => res_ok (x_move rfl (E.o 0 _ rfl g0_0)) (goes_still rfl rfl hM)
  · exact op2 (a := 0) rfl fun e w ρ (hM : Mem _ w) E => res_ok (x_nil rfl (E.d 1 _ 7 rfl rfl rfl)) (goes_still rfl rfl hM)
  · exact op2 (a := 0) rfl fun e w ρ (hM : Mem _ w) E => res_ok (x_fieldAddr (off := 1) rfl (E.d 2 _ 8 rfl rfl rfl) (by kernel_rfl) rfl) (goes_still rfl rfl hM)
  · exact op2 (a := 0) rfl fun e w ρ (hM : Mem _ w) E => res_ok (x_load rfl (E.d 3 _ 9 rfl rfl rfl) (by kernel_rfl) ((hM.box 0 rfl).cell 1 rfl)) (goes_still rfl rfl hM)
  · exact op2 (a := 0) rfl fun e w ρ (hM : Mem _ w) E => res_ok (x_move rfl (E.o 1 _ rfl g1_0)) (goes_still rfl rfl hM)
  · exact op2 (a := 0) rfl fun e w ρ (hM : Mem _ w) E => res_ok (x_nil rfl (E.d 5 _ 11 rfl rfl rfl)) (goes_still rfl rfl hM)
  ·
   refine op2 (a := 0) rfl fun e w ρ (hM : Mem _ w) E => ?_
   have e12 : ρ (.tmp 12) = .pointer (some ⟨b, off, none⟩) := E.d 6 _ 12 rfl rfl rfl
   exact res_ok (x_load rfl (e12) (by kernel_rfl) ((hM.box 2 rfl).cell off hx)) (goes_still rfl rfl hM)
  · exact op2 (a := 0) rfl fun e w ρ (hM : Mem _ w) E => res_ok (x_conv rfl (E.d 7 _ 13 rfl rfl rfl) (by kernel_rfl) (by kernel_rfl) (rfl)) (goes_still rfl rfl hM)
  · exact op2 (a := 0) rfl fun e w ρ (hM : Mem _ w) E => res_ok (x_move rfl (E.o 2 _ rfl g2_0)) (goes_still rfl rfl hM)
  ·
   refine op2 (a := 0) rfl fun e w ρ (hM : Mem _ w) E => ?_
   have e10 : ρ (.tmp 10) = .func (.func (nf m)) #[.pointer (some ⟨pw, 0, none⟩)] #[] := E.d 4 _ 10 rfl rfl rfl
   have e14 : ρ (.tmp 14) = .int .u64 (IntKind.u64.wrap x) := E.d 8 _ 14 rfl rfl rfl
   have e15 : ρ (.tmp 15) = .int .i64 (n : Int) := E.d 9 _ 15 rfl rfl rfl
   refine res_in (x_call (args := #[.pointer (some ⟨pw, 0, none⟩), .int .u64 (IntKind.u64.wrap x), .int .i64 (n : Int)]) rfl rfl (e10) (by simp [e14, e15]) (nf_enters m)) ?_
   refine (num_at m pw σ (IntKind.u64.wrap x) n _ _ (walk_shut ((hM.front 1 rfl).front 1 rfl)) hv hn hb).mono ?_
   rintro e' w' ⟨rfl, hm⟩
   exact ⟨_, rfl, goes_tick rfl (0, undef) rfl hm⟩
  · exact op2 (a := 1) rfl fun e w ρ (hM : Mem _ w) E => res_ok (x_conv rfl (E.d 10 _ 16 rfl rfl rfl) (by kernel_rfl) (by kernel_rfl) (rfl)) (goes_still rfl rfl hM)
  · exact op2 (a := 1) rfl fun e w ρ (hM : Mem _ w) E => res_ok (x_nil rfl (E.d 0 _ 6 rfl rfl rfl)) (goes_still rfl rfl hM)
  ·
   refine op2 (a := 1) rfl fun e w ρ (hM : Mem _ w) E => ?_
   have e17 : ρ (.tmp 17) = .int .u8 (IntKind.u8.wrap (num m σ (IntKind.u64.wrap x) n).1) := E.d 11 _ 17 rfl rfl rfl
   have e18 : ρ (.tmp 18) = .pointer (some ⟨b, off, none⟩) := E.d 12 _ 18 rfl rfl rfl
   obtain ⟨w', hr, hm⟩ := Mem.store (P := Try.prog) hM 1 rfl 37 off (.int .u8 (IntKind.u8.wrap (num m σ (IntKind.u64.wrap x) n).1)) [.int .u8 (IntKind.u8.wrap (num m σ (IntKind.u64.wrap x) n).1)] rfl (by kernel_rfl) hoff rfl
   exact res_st (x_store rfl (e18) (e17) hr) (goes_tick rfl (0, undef) rfl hm)
 ·
  intro e a1 w1 hz1 hd hG hO hM
  have hd1 := hd.trans hd0
  have hM1 : Mem (walkC m pw (num m σ (IntKind.u64.wrap x) n).2 :: boxE q b (over vs off [.int .u8 (IntKind.u8.wrap (num m σ (IntKind.u64.wrap x) n).1)]) :: R) w1 := hM
  clear hM hG hO hd
  clear hz0 hd0 hM0 g0_0 g1_0 g2_0
  refine end_r ?_
  refine ret_0 Try.results61 hd1 ?_
  exact ⟨rfl, hM1⟩
set_option maxRecDepth 100000 in
set_option maxHeartbeats 2000000 in
theorem field_Errno (m : Md) (pw : Nat) (σ : WS) (q : Option TypeId) (b off : Nat) (vs : Array Value) (x : Int) (n : Nat) (R : List Chunk) (w : World) (hM : Mem (walkC m pw σ :: boxE q b vs :: R) w) (hx : vs[off]? = some (.int .i64 x)) (hn : 1 ≤ n ∧ n ≤ 8) (hb : σ.bs.length ≤ 1000000) :
  Calls Try.prog 63 #[.pointer (some ⟨pw, 0, none⟩), .pointer (some ⟨b, off, none⟩), .int .i64 n] w fun e w' => e = .returned (.tuple #[]) ∧ Mem (walkC m pw (num m σ (IntKind.u64.wrap x) n).2 :: boxE q b (over vs off [.int .i64 (IntKind.i64.wrap (num m σ (IntKind.u64.wrap x) n).1)]) :: R) w' := by
 obtain ⟨v, hM⟩ := walk_open hM
 have hoff : off + 1 ≤ vs.size := (Array.getElem?_eq_some_iff.1 hx).1
 have hv : 0 ≤ IntKind.u64.wrap x ∧ IntKind.u64.wrap x ≤ 18446744073709551615 := by rw [IntKind.wrap_u64]; omega
 refine enter Try.func63 rfl Try.ntmps63 (Nat.le_of_ble_eq_true rfl) ?_
 intro a0 hz0 hd0 hg0
 have g0_0 : a0.tmps[0]? = some (.pointer (some ⟨pw, 0, none⟩)) := hg0 0 _ rfl
 have g1_0 : a0.tmps[1]? = some (.pointer (some ⟨b, off, none⟩)) := hg0 1 _ rfl
 have g2_0 : a0.tmps[2]? = some (.int .i64 (n : Int)) := hg0 2 _ rfl
 clear hg0
 have hM0 : Mem (boxC pw #[v, .func (.func (nf m)) #[.pointer (some ⟨pw, 0, none⟩)] #[], .bool σ.bad] :: tailC m v σ.bs :: boxE q b vs :: R) _ := hM
 refine region_draw 19 (fun zz e => (#[.pointer (some ⟨b, off, none⟩), .pointer (some ⟨pw, 0, none⟩), .pointer (some ⟨pw, 0, none⟩), .pointer (some ⟨pw, 1, none⟩), .func (.func (nf m)) #[.pointer (some ⟨pw, 0, none⟩)] #[], .pointer (some ⟨b, off, none⟩), .pointer (some ⟨b, off, none⟩), .int .i64 x, .int .u64 (IntKind.u64.wrap x), .int .i64 (n : Int), .int .u64 ((num m σ (IntKind.u64.wrap x) n).1), .int .i64 (IntKind.i64.wrap (num m σ (IntKind.u64.wrap x) n).1), .pointer (some ⟨b, off, none⟩), undef] : Array Value).getD zz undef) (fun k e w => Mem (List.getD [boxC pw #[v, .func (.func (nf m)) #[.pointer (some ⟨pw, 0, none⟩)] #[], .bool σ.bad] :: tailC m v σ.bs :: boxE q b vs :: R, walkC m pw (num m σ (IntKind.u64.wrap x) n).2 :: boxE q b vs :: R, walkC m pw (num m σ (IntKind.u64.wrap x) n).2 :: boxE q b (over vs off [.int .i64 (IntKind.i64.wrap (num m σ (IntKind.u64.wrap x) n).1)]) :: R] k []) w) (fun _ => (0, undef)) [10, 13] [[], [], [1], [1, 2], [1, 2, 3], [], [5], [5, 6], [5, 6, 7], [], [1, 2, 3, 4, 5, 6, 7, 8, 9], [1, 2, 3, 4, 5, 6, 7, 8, 9, 10], [0, 1, 2, 3, 4, 5, 6, 7, 8, 9, 10, 11], [0, 1, 2, 3, 4, 5, 6, 7, 8, 9, 10, 11, 12]] [0, 0, 0, 0, 0, 0, 0, 0, 0, 0, 0, 1, 1, 1] [1, 0, 0, 0, 0, 0, 0, 0, 0, 0, 0, 1, 1, 1] (fun _ _ => false) hz0 (by kernel_rfl) (by kernel_rfl) (by kernel_rfl) (by kernel_rfl) (by kernel_rfl) ?_ (show Mem _ _ from hM0.drew) ?_ ?_
 · exact ⟨fun _ _ _ => rfl, fun _ _ _ => rfl, fun _ _ _ => rfl, fun _ _ _ => rfl, fun _ _ _ => rfl, fun _ _ _ => rfl, fun _ _ _ => rfl, fun _ _ _ => rfl, fun _ _ _ => rfl, fun _ _ _ => rfl, fun _ _ _ => rfl, fun _ _ _ => rfl, fun _ _ _ => rfl, fun _ _ _ => rfl, trivial⟩
 ·
  refine ⟨?_, ?_, ?_, ?_, ?_, ?_, ?_, ?_, ?_, ?_, ?_, ?_, ?_, ?_, trivial⟩
  ·
   intro zk e w ρ zhl zhh hO E
   obtain rfl | rfl : zk = 0 ∨ zk = 1 := by have h1 : 0 ≤ zk := zhl; have h2 : zk ≤ 1 := zhh; omega
   ·
    have e1 := E.o 1 _ rfl g1_0
    have hM : Mem _ w := hO
    refine (if_pos rfl).mpr ?_
    exact res_ok (x_move rfl (e1)) (goes_still rfl rfl hM)
   ·
    have e1 := E.o 1 _ rfl g1_0
    have hM : Mem _ w := hO
    refine (if_pos rfl).mpr ?_
    exact res_ok (x_move rfl (e1)) (goes_still rfl rfl hM)
  · exact op2 (a := 0) rfl fun e w ρ (hM : Mem _ w) E => res_ok (x_move rfl (E.o 0 _ rfl g0_0)) (goes_still rfl rfl hM)
  · exact op2 (a := 0) rfl fun e w ρ (hM : Mem _ w) E => res_ok (x_nil rfl (E.d 1 _ 7 rfl rfl rfl)) (goes_still rfl rfl hM)
  · exact op2 (a := 0) rfl fun e w ρ (hM : Mem _ w) E => res_ok (x_fieldAddr (off := 1) rfl (E.d 2 _ 8 rfl rfl rfl) (by kernel_rfl) rfl) (goes_still rfl rfl hM)
  · exact op2 (a := 0) rfl fun e w ρ (hM : Mem _ w) E => res_ok (x_load rfl (E.d 3 _ 9 rfl rfl rfl) (by kernel_rfl) ((hM.box 0 rfl).cell 1 rfl)) (goes_still rfl rfl hM)
  · exact op2 (a := 0) rfl fun e w ρ (hM : Mem _ w) E => res_ok (x_move rfl (E.o 1 _ rfl g1_0)) (goes_still rfl rfl hM)
  · exact op2 (a := 0) rfl fun e w ρ (hM : Mem _ w) E => res_ok (x_nil rfl (E.d 5 _ 11 rfl rfl rfl)) (goes_still rfl rfl hM)
  ·
   refine op2 (a := 0) rfl fun e w ρ (hM : Mem _ w) E => ?_
   have e12 : ρ (.tmp 12) = .pointer (some ⟨b, off, none⟩) := E.d 6 _ 12 rfl rfl rfl
   exact res_ok (x_load rfl (e12) (by kernel_rfl) ((hM.box 2 rfl).cell off hx)) (goes_still rfl rfl hM)
  · exact op2 (a := 0) rfl fun e w ρ (hM : Mem _ w) E => res_ok (x_conv rfl (E.d 7 _ 13 rfl rfl rfl) (by kernel_rfl) (by kernel_rfl) (rfl)) (goes_still rfl rfl hM)
  · exact op2 (a := 0) rfl fun e w ρ (hM : Mem _ w) E => res_ok (x_move rfl (E.o 2 _ rfl g2_0)) (goes_still rfl rfl hM)
  ·
   refine op2 (a := 0) rfl fun e w ρ (hM : Mem _ w) E => ?_
   have e10 : ρ (.tmp 10) = .func (.func (nf m)) #[.pointer (some ⟨pw, 0, none⟩)] #[] := E.d 4 _ 10 rfl rfl rfl
   have e14 : ρ (.tmp 14) = .int .u64 (IntKind.u64.wrap x) := E.d 8 _ 14 rfl rfl rfl
   have e15 : ρ (.tmp 15) = .int .i64 (n : Int) := E.d 9 _ 15 rfl rfl rfl
   refine res_in (x_call (args := #[.pointer (some ⟨pw, 0, none⟩), .int .u64 (IntKind.u64.wrap x), .int .i64 (n : Int)]) rfl rfl (e10) (by simp [e14, e15]) (nf_enters m)) ?_
   refine (num_at m pw σ (IntKind.u64.wrap x) n _ _ (walk_shut ((hM.front 1 rfl).front 1 rfl)) hv hn hb).mono ?_
   rintro e' w' ⟨rfl, hm⟩
   exact ⟨_, rfl, goes_tick rfl (0, undef) rfl hm⟩
  · exact op2 (a := 1) rfl fun e w ρ (hM : Mem _ w) E => res_ok (x_conv rfl (E.d 10 _ 16 rfl rfl rfl) (by kernel_rfl) (by kernel_rfl) (rfl)) (goes_still rfl rfl hM)
  · exact op2 (a := 1) rfl fun e w ρ (hM : Mem _ w) E => res_ok (x_nil rfl (E.d 0 _ 6 rfl rfl rfl)) (goes_still rfl rfl hM)
  ·
   refine op2 (a := 1) rfl fun e w ρ (hM : Mem _ w) E => ?_
   have e17 : ρ (.tmp 17) = .int .i64 (IntKind.i64.wrap (num m σ (IntKind.u64.wrap x) n).1) := E.d 11 _ 17 rfl rfl rfl
   have e18 : ρ (.tmp 18) = .pointer (some ⟨b, off, none⟩) := E.d 12 _ 18 rfl rfl rfl
   obtain ⟨w', hr, hm⟩ := Mem.store (P := Try.prog) hM 1 rfl 40 off (.int .i64 (IntKind.i64.wrap (num m σ (IntKind.u64.wrap x) n).1)) [.int .i64 (IntKind.i64.wrap (num m σ (IntKind.u64.wrap x) n).1)] rfl (by kernel_rfl) hoff rfl
   exact res_st (x_store rfl (e18) (e17) hr) (goes_tick rfl (0, undef) rfl hm)
 ·
  intro e a1 w1 hz1 hd hG hO hM
  have hd1 := hd.trans hd0
  have hM1 : Mem (walkC m pw (num m σ (IntKind.u64.wrap x) n).2 :: boxE q b (over vs off [.int .i64 (IntKind.i64.wrap (num m σ (IntKind.u64.wrap x) n).1)]) :: R) w1 := hM
  clear hM hG hO hd
  clear hz0 hd0 hM0 g0_0 g1_0 g2_0
  refine end_r ?_
  refine ret_0 Try.results63 hd1 ?_
  exact ⟨rfl, hM1⟩
end Go.Proofs.Ytfcjmpgbohgoeaa
