/- CODEC: the walk of CodecOwn. -/
import Derived.Test.YtfcjmpgbohgoeaaCo24
namespace Go.Proofs.Ytfcjmpgbohgoeaa
open Go.RowKit Go.Lib Go.Tk Go.Shelf Go.Vc
set_option linter.unusedVariables false
set_option linter.unusedSimpArgs false
attribute [-go_sem] loadCellsFrom
theorem over_far {vs : Array Value} {lo j : Nat} {v : Value} (hlo : lo < vs.size) (hj : j ≠ lo) : (over vs lo [v])[j]? = vs[j]? := by
 unfold over
 have e : (vs.toList.take lo ++ [v] ++ vs.toList.drop (lo + [v].length)) = vs.toList.set lo v := by
  rw [List.set_eq_take_append_cons_drop, if_pos (by simpa using hlo)]
  simp
 rw [e]
 simp [List.getElem?_set, Ne.symm hj]
theorem cells_leg {xs : List LegV} {cur : Array Value} {n : Nat} (hn : xs.length = n) (h : cur.toList.take (n * 3) = cellsL legE xs) : ∀ (j : Nat) x, xs[j]? = some x → cur[j * 3]? = some (.int .u8 x.c) := by
 intro j x hx
 obtain ⟨hj, hxx⟩ := List.getElem?_eq_some_iff.1 hx
 have h1 := cellsL_get (show ∀ x, (legE x).length = 3 from fun _ => rfl) xs j 0 hj (by decide)
 have hl : (cellsL legE xs).length = n * 3 := by rw [cellsL_len (show ∀ x, (legE x).length = 3 from fun _ => rfl), hn]
 have hlt : j * 3 < n * 3 := by omega
 have h2 : (cellsL legE xs)[j * 3]? = some (.int .u8 x.c) := by
  rw [Nat.add_zero, List.getD_eq_getElem?_getD, List.getElem?_eq_getElem (by omega)] at h1
  rw [List.getElem?_eq_getElem (by omega)]
  rw [hxx] at h1
  exact congrArg some h1
 rw [← h, List.getElem?_take, if_pos hlt] at h2
 simpa using h2
set_option maxRecDepth 100000 in
set_option maxHeartbeats 8000000 in
theorem own_at (r : RecV) (al at1 : Option Addr) (cl ct : Nat) (D : Chunk) (R : List Chunk) (w : World) (hM : Mem (D :: R) w) (rl : Rd D al (cellsL legE r.cmd.legs)) (rt : Rd D at1 (cellsL taxE r.cmd.taxes)) (hi : RecIn r) :
  Calls Try.prog 7 #[.agg (recCells r (.slice al r.cmd.legs.length cl) (.slice at1 r.cmd.taxes.length ct))] w fun e w' => e = .returned (.bool true) ∧ Mem (D :: R) w' := by
 refine enter Try.func7 rfl Try.ntmps7 (Nat.le_of_ble_eq_true rfl) ?_
 intro a0 hz0 hd0 hg0
 have g0_0 : a0.tmps[0]? = some (.agg (recCells r (.slice al r.cmd.legs.length cl) (.slice at1 r.cmd.taxes.length ct))) := hg0 0 _ rfl
 clear hg0
 have hM0 : Mem (D :: R) _ := hM
 refine wp_seq ?_
 refine region_seq 96 (fun zz e => (#[.pointer (some ⟨(e 0).1, 0, none⟩), .bool false] : Array Value).getD zz undef) (fun k e w => Mem (List.getD [D :: R, boxC ((e 0).1) (recCells r (.slice al r.cmd.legs.length cl) (.slice at1 r.cmd.taxes.length ct)) :: D :: R] k []) w) (fun _ => (0, undef)) [0] [0, 1] (fun _ _ => false) hz0 (by kernel_rfl) (by kernel_rfl) (by kernel_rfl) ?_ (show Mem _ _ from hM0) ?_ ?_
 · exact ⟨fun e e' h => congrArg (fun x : Rv => (.pointer (some ⟨x.1, 0, none⟩) : Value)) (h 0 (by decide)), fun _ _ _ => rfl, trivial⟩
 ·
  refine ⟨?_, ?_, trivial⟩
  ·
   refine op2 (a := 0) rfl fun e w ρ (hM : Mem _ w) E => ?_
   have e0 : ρ (.tmp 0) = .agg (recCells r (.slice al r.cmd.legs.length cl) (.slice at1 r.cmd.taxes.length ct)) := E.o 0 _ rfl g0_0
   exact res_ok (x_box rfl (e0)) (goes_tick rfl (w.heap.size, undef) rfl (hM.alloc _ _))
  · exact op2 (a := 1) rfl fun e w ρ (hM : Mem _ w) E => res_ok (x_assign rfl (E.c _)) (goes_still rfl rfl hM)
 ·
  intro e a1 w1 hz1 hd hG hO hM
  have hd1 := hd.trans hd0
  have g1_1 : a1.tmps[1]? = some (.pointer (some ⟨(e 0).1, 0, none⟩)) := hG 0 _ 1 rfl rfl
  have g2_1 : a1.tmps[2]? = some (.bool false) := hG 1 _ 2 rfl rfl
  have hM1 : Mem (boxC ((e 0).1) (recCells r (.slice al r.cmd.legs.length cl) (.slice at1 r.cmd.taxes.length ct)) :: D :: R) w1 := hM
  clear hM hG hO hd
  clear hz0 hd0 hM0 g0_0
  generalize (e 0).1 = b1_0 at *
  refine then_n ?_
  refine wp_seq ?_
  refine wp_seq ?_
  refine region_seq 96 (fun zz e => (#[.agg (recCells r (.slice al r.cmd.legs.length cl) (.slice at1 r.cmd.taxes.length ct)), .bool (greatV r)] : Array Value).getD zz undef) (fun k e w => Mem (List.getD [boxC b1_0 (recCells r (.slice al r.cmd.legs.length cl) (.slice at1 r.cmd.taxes.length ct)) :: D :: R] k []) w) (fun _ => (0, undef)) [] [0, 0] (fun _ _ => false) hz1 (by kernel_rfl) (by kernel_rfl) (by kernel_rfl) ?_ (show Mem _ _ from hM1) ?_ ?_
  · exact ⟨fun _ _ _ => rfl, fun _ _ _ => rfl, trivial⟩
  ·
   refine ⟨?_, ?_, trivial⟩
   · exact op2 (a := 0) rfl fun e w ρ (hM : Mem _ w) E => res_ok (x_loads rfl (E.o 1 _ rfl g1_1) (by kernel_rfl) (load_part (hM.box 0 rfl) [.int .u8 r.kind, .int .u8 r.cmd.kind, .int .u8 r.cmd.tick.c, .int .u64 r.cmd.tick.r, .int .u8 r.cmd.at_, .string r.cmd.name, .slice al r.cmd.legs.length cl, .int .i64 r.cmd.fare, .slice at1 r.cmd.taxes.length ct, .int .i64 r.cmd.penalty, .int .i64 r.cmd.amount, .int .u8 r.frm, .int .u64 r.number, .int .u8 r.msg.kind, .int .u8 r.msg.tick.c, .int .u64 r.msg.tick.r, .int .u8 r.msg.at_, .int .u8 r.msg.leg.c, .int .u16 r.msg.leg.f, .int .u32 r.msg.leg.x, .int .i64 r.msg.value, .int .u8 r.msg.status, .int .u32 r.msg.nonce, .int .i64 r.msg.amount, .int .i64 r.msg.code] rfl (Nat.le_of_ble_eq_true rfl) rfl)) (goes_still rfl rfl hM)
   ·
    refine op2 (a := 0) rfl fun e w ρ (hM : Mem _ w) E => ?_
    have e15 : ρ (.tmp 15) = .agg (recCells r (.slice al r.cmd.legs.length cl) (.slice at1 r.cmd.taxes.length ct)) := E.d 0 _ 15 rfl rfl rfl
    refine res_in (x_call (args := #[.agg (recCells r (.slice al r.cmd.legs.length cl) (.slice at1 r.cmd.taxes.length ct))]) rfl rfl (E.f _) (by simp [e15]) (by kernel_rfl)) ?_
    refine (great_at r al at1 cl ct _ _ hM (rdM rt 1 rfl) hi.cmd.nt).mono ?_
    rintro e' w' ⟨rfl, hm⟩
    exact ⟨_, rfl, goes_still rfl rfl (hm)⟩
  ·
   intro e a2 w2 hz2 hd hG hO hM
   have hd2 := hd.trans hd1
   have g1_2 := (hO 1 rfl).trans g1_1
   have g2_2 := (hO 2 rfl).trans g2_1
   have g16_2 : a2.tmps[16]? = some (.bool (greatV r)) := hG 1 _ 16 rfl rfl
   have hM2 : Mem (boxC b1_0 (recCells r (.slice al r.cmd.legs.length cl) (.slice at1 r.cmd.taxes.length ct)) :: D :: R) w2 := hM
   clear hM hG hO hd
   clear hz1 hd1 hM1 g1_1 g2_1
   refine then_n ?_
   cases hc1 : greatV r
   ·
    refine cond_f (g16_2.trans (by rw [hc1])) ?_
    have hgr := hc1
    obtain ⟨⟨hgn, hgl, hgt⟩, hgc⟩ := not_great hgr
    have hw := hi.w (by omega) (by omega)
    refine wp_skip ?_
    refine then_n ?_
    refine wp_seq ?_
    refine region_seq 96 (fun zz e => (#[.agg (recCells r (.slice al r.cmd.legs.length cl) (.slice at1 r.cmd.taxes.length ct)), .tuple #[(e 0).2, .int .i64 (putE r)], .tuple #[(e 0).2, .int .i64 (putE r)], (e 0).2, .int .i64 (putE r), (e 0).2, .int .i64 (putE r)] : Array Value).getD zz undef) (fun k e w => Mem (List.getD [boxC b1_0 (recCells r (.slice al r.cmd.legs.length cl) (.slice at1 r.cmd.taxes.length ct)) :: D :: R, rowC 5 1 (e 0).2 (putB r).length ((putB r).map (.int .u8)) :: boxC b1_0 (recCells r (.slice al r.cmd.legs.length cl) (.slice at1 r.cmd.taxes.length ct)) :: D :: R] k []) w) (fun _ => (0, undef)) [1] [0, 0, 1, 1, 1, 1, 1] (fun _ _ => false) hz2 (by kernel_rfl) (by kernel_rfl) (by kernel_rfl) ?_ (show Mem _ _ from hM2) ?_ ?_
    · exact ⟨fun _ _ _ => rfl, fun e e' h => congrArg (fun x : Rv => (.tuple #[x.2, .int .i64 (putE r)] : Value)) (h 0 (by decide)), fun e e' h => congrArg (fun x : Rv => (.tuple #[x.2, .int .i64 (putE r)] : Value)) (h 0 (by decide)), fun e e' h => congrArg (fun x : Rv => (x.2 : Value)) (h 0 (by decide)), fun _ _ _ => rfl, fun e e' h => congrArg (fun x : Rv => (x.2 : Value)) (h 0 (by decide)), fun _ _ _ => rfl, trivial⟩
    ·
     refine ⟨?_, ?_, ?_, ?_, ?_, ?_, ?_, trivial⟩
     · exact op2 (a := 0) rfl fun e w ρ (hM : Mem _ w) E => res_ok (x_loads rfl (E.o 1 _ rfl g1_2) (by kernel_rfl) (load_part (hM.box 0 rfl) [.int .u8 r.kind, .int .u8 r.cmd.kind, .int .u8 r.cmd.tick.c, .int .u64 r.cmd.tick.r, .int .u8 r.cmd.at_, .string r.cmd.name, .slice al r.cmd.legs.length cl, .int .i64 r.cmd.fare, .slice at1 r.cmd.taxes.length ct, .int .i64 r.cmd.penalty, .int .i64 r.cmd.amount, .int .u8 r.frm, .int .u64 r.number, .int .u8 r.msg.kind, .int .u8 r.msg.tick.c, .int .u64 r.msg.tick.r, .int .u8 r.msg.at_, .int .u8 r.msg.leg.c, .int .u16 r.msg.leg.f, .int .u32 r.msg.leg.x, .int .i64 r.msg.value, .int .u8 r.msg.status, .int .u32 r.msg.nonce, .int .i64 r.msg.amount, .int .i64 r.msg.code] rfl (Nat.le_of_ble_eq_true rfl) rfl)) (goes_still rfl rfl hM)
     ·
      refine op2 (a := 0) rfl fun e w ρ (hM : Mem _ w) E => ?_
      have e18 : ρ (.tmp 18) = .agg (recCells r (.slice al r.cmd.legs.length cl) (.slice at1 r.cmd.taxes.length ct)) := E.d 0 _ 18 rfl rfl rfl
      refine res_in (x_call (args := #[.agg (recCells r (.slice al r.cmd.legs.length cl) (.slice at1 r.cmd.taxes.length ct))]) rfl rfl (E.f _) (by simp [e18]) (by kernel_rfl)) ?_
      refine (put_at r al at1 cl ct _ _ hM (rdM rl 1 rfl) (rdM rt 1 rfl) hw).mono ?_
      rintro e' w' ⟨v', rfl, hm⟩
      exact ⟨_, rfl, goes_tick rfl (0, v') rfl hm⟩
     · exact op2 (a := 1) rfl fun e w ρ (hM : Mem _ w) E => res_ok (x_move rfl (E.d 1 _ 19 rfl rfl rfl)) (goes_still rfl rfl hM)
     ·
      refine op2 (a := 1) rfl fun e w ρ (hM : Mem _ w) E => ?_
      have e17 : ρ (.tmp 17) = .tuple #[(e 0).2, .int .i64 (putE r)] := E.d 2 _ 17 rfl rfl rfl
      exact res_ok (x_extract rfl (e17) rfl) (goes_still rfl rfl hM)
     ·
      refine op2 (a := 1) rfl fun e w ρ (hM : Mem _ w) E => ?_
      have e17 : ρ (.tmp 17) = .tuple #[(e 0).2, .int .i64 (putE r)] := E.d 2 _ 17 rfl rfl rfl
      exact res_ok (x_extract rfl (e17) rfl) (goes_still rfl rfl hM)
     · exact op2 (a := 1) rfl fun e w ρ (hM : Mem _ w) E => res_ok (x_assign rfl (E.d 3 _ 20 rfl rfl rfl)) (goes_still rfl rfl hM)
     · exact op2 (a := 1) rfl fun e w ρ (hM : Mem _ w) E => res_ok (x_assign rfl (E.d 4 _ 21 rfl rfl rfl)) (goes_still rfl rfl hM)
    ·
     intro e a3 w3 hz3 hd hG hO hM
     have hd3 := hd.trans hd2
     have g1_3 := (hO 1 rfl).trans g1_2
     have g2_3 := (hO 2 rfl).trans g2_2
     have g3_3 : a3.tmps[3]? = some ((e 0).2) := hG 5 _ 3 rfl rfl
     have g4_3 : a3.tmps[4]? = some (.int .i64 (putE r)) := hG 6 _ 4 rfl rfl
     have hM3 : Mem (rowC 5 1 (e 0).2 (putB r).length ((putB r).map (.int .u8)) :: boxC b1_0 (recCells r (.slice al r.cmd.legs.length cl) (.slice at1 r.cmd.taxes.length ct)) :: D :: R) w3 := hM
     clear hM hG hO hd
     clear hz2 hd2 hM2 g1_2 g2_2 g16_2
     generalize (e 0).2 = v3_0 at *
     obtain ⟨a2, c2, rfl, hrwA, hlcA, hcmA, hacA⟩ := (hM3.owns 0 rfl).row
     refine then_n ?_
     refine wp_seq ?_
     refine region_seq 96 (fun zz e => (#[.agg (recCells r (.slice al r.cmd.legs.length cl) (.slice at1 r.cmd.taxes.length ct)), .tuple #[(e 0).2, .int .i64 (putE r)], .tuple #[(e 0).2, .int .i64 (putE r)], (e 0).2, .int .i64 (putE r), (e 0).2, .int .i64 (putE r)] : Array Value).getD zz undef) (fun k e w => Mem (List.getD [rowC 5 1 (.slice a2 ((putB r).length) c2) (putB r).length ((putB r).map (.int .u8)) :: boxC b1_0 (recCells r (.slice al r.cmd.legs.length cl) (.slice at1 r.cmd.taxes.length ct)) :: D :: R, rowC 5 1 (e 0).2 (putB r).length ((putB r).map (.int .u8)) :: rowC 5 1 (.slice a2 ((putB r).length) c2) (putB r).length ((putB r).map (.int .u8)) :: boxC b1_0 (recCells r (.slice al r.cmd.legs.length cl) (.slice at1 r.cmd.taxes.length ct)) :: D :: R] k []) w) (fun _ => (0, undef)) [1] [0, 0, 1, 1, 1, 1, 1] (fun _ _ => false) hz3 (by kernel_rfl) (by kernel_rfl) (by kernel_rfl) ?_ (show Mem _ _ from hM3) ?_ ?_
     · exact ⟨fun _ _ _ => rfl, fun e e' h => congrArg (fun x : Rv => (.tuple #[x.2, .int .i64 (putE r)] : Value)) (h 0 (by decide)), fun e e' h => congrArg (fun x : Rv => (.tuple #[x.2, .int .i64 (putE r)] : Value)) (h 0 (by decide)), fun e e' h => congrArg (fun x : Rv => (x.2 : Value)) (h 0 (by decide)), fun _ _ _ => rfl, fun e e' h => congrArg (fun x : Rv => (x.2 : Value)) (h 0 (by decide)), fun _ _ _ => rfl, trivial⟩
     ·
      refine ⟨?_, ?_, ?_, ?_, ?_, ?_, ?_, trivial⟩
      · exact op2 (a := 0) rfl fun e w ρ (hM : Mem _ w) E => res_ok (x_loads rfl (E.o 1 _ rfl g1_3) (by kernel_rfl) (load_part (hM.box 1 rfl) [.int .u8 r.kind, .int .u8 r.cmd.kind, .int .u8 r.cmd.tick.c, .int .u64 r.cmd.tick.r, .int .u8 r.cmd.at_, .string r.cmd.name, .slice al r.cmd.legs.length cl, .int .i64 r.cmd.fare, .slice at1 r.cmd.taxes.length ct, .int .i64 r.cmd.penalty, .int .i64 r.cmd.amount, .int .u8 r.frm, .int .u64 r.number, .int .u8 r.msg.kind, .int .u8 r.msg.tick.c, .int .u64 r.msg.tick.r, .int .u8 r.msg.at_, .int .u8 r.msg.leg.c, .int .u16 r.msg.leg.f, .int .u32 r.msg.leg.x, .int .i64 r.msg.value, .int .u8 r.msg.status, .int .u32 r.msg.nonce, .int .i64 r.msg.amount, .int .i64 r.msg.code] rfl (Nat.le_of_ble_eq_true rfl) rfl)) (goes_still rfl rfl hM)
      ·
       refine op2 (a := 0) rfl fun e w ρ (hM : Mem _ w) E => ?_
       have e23 : ρ (.tmp 23) = .agg (recCells r (.slice al r.cmd.legs.length cl) (.slice at1 r.cmd.taxes.length ct)) := E.d 0 _ 23 rfl rfl rfl
       refine res_in (x_call (args := #[.agg (recCells r (.slice al r.cmd.legs.length cl) (.slice at1 r.cmd.taxes.length ct))]) rfl rfl (E.f _) (by simp [e23]) (by kernel_rfl)) ?_
       refine (put_at r al at1 cl ct _ _ hM (rdM rl 2 rfl) (rdM rt 2 rfl) hw).mono ?_
       rintro e' w' ⟨v', rfl, hm⟩
       exact ⟨_, rfl, goes_tick rfl (0, v') rfl hm⟩
      · exact op2 (a := 1) rfl fun e w ρ (hM : Mem _ w) E => res_ok (x_move rfl (E.d 1 _ 24 rfl rfl rfl)) (goes_still rfl rfl hM)
      ·
       refine op2 (a := 1) rfl fun e w ρ (hM : Mem _ w) E => ?_
       have e22 : ρ (.tmp 22) = .tuple #[(e 0).2, .int .i64 (putE r)] := E.d 2 _ 22 rfl rfl rfl
       exact res_ok (x_extract rfl (e22) rfl) (goes_still rfl rfl hM)
      ·
       refine op2 (a := 1) rfl fun e w ρ (hM : Mem _ w) E => ?_
       have e22 : ρ (.tmp 22) = .tuple #[(e 0).2, .int .i64 (putE r)] := E.d 2 _ 22 rfl rfl rfl
       exact res_ok (x_extract rfl (e22) rfl) (goes_still rfl rfl hM)
      · exact op2 (a := 1) rfl fun e w ρ (hM : Mem _ w) E => res_ok (x_assign rfl (E.d 3 _ 25 rfl rfl rfl)) (goes_still rfl rfl hM)
      · exact op2 (a := 1) rfl fun e w ρ (hM : Mem _ w) E => res_ok (x_assign rfl (E.d 4 _ 26 rfl rfl rfl)) (goes_still rfl rfl hM)
     ·
      intro e a4 w4 hz4 hd hG hO hM
      have hd4 := hd.trans hd3
      have g1_4 := (hO 1 rfl).trans g1_3
      have g2_4 := (hO 2 rfl).trans g2_3
      have g3_4 := (hO 3 rfl).trans g3_3
      have g4_4 := (hO 4 rfl).trans g4_3
      have g5_4 : a4.tmps[5]? = some ((e 0).2) := hG 5 _ 5 rfl rfl
      have hM4 : Mem (rowC 5 1 (e 0).2 (putB r).length ((putB r).map (.int .u8)) :: rowC 5 1 (.slice a2 ((putB r).length) c2) (putB r).length ((putB r).map (.int .u8)) :: boxC b1_0 (recCells r (.slice al r.cmd.legs.length cl) (.slice at1 r.cmd.taxes.length ct)) :: D :: R) w4 := hM
      clear hM hG hO hd
      clear hz3 hd3 hM3 g1_3 g2_3 g3_3 g4_3
      generalize (e 0).2 = v4_0 at *
      obtain ⟨a3, c3, rfl, hrwB, hlcB, hcmB, hacB⟩ := (hM4.owns 0 rfl).row
      refine then_n ?_
      refine wp_seq ?_
      refine wp_seq ?_
      refine region_seq 96 (fun zz e => (#[.int .i64 (putE r), .bool (!decide ((putE r) = 0))] : Array Value).getD zz undef) (fun k e w => Mem (List.getD [rowC 5 1 (.slice a3 ((putB r).length) c3) (putB r).length ((putB r).map (.int .u8)) :: rowC 5 1 (.slice a2 ((putB r).length) c2) (putB r).length ((putB r).map (.int .u8)) :: boxC b1_0 (recCells r (.slice al r.cmd.legs.length cl) (.slice at1 r.cmd.taxes.length ct)) :: D :: R] k []) w) (fun _ => (0, undef)) [] [0, 0] (fun _ _ => false) hz4 (by kernel_rfl) (by kernel_rfl) (by kernel_rfl) ?_ (show Mem _ _ from hM4) ?_ ?_
      · exact ⟨fun _ _ _ => rfl, fun _ _ _ => rfl, trivial⟩
      ·
       refine ⟨?_, ?_, trivial⟩
       · exact op2 (a := 0) rfl fun e w ρ (hM : Mem _ w) E => res_ok (x_move rfl (E.o 4 _ rfl g4_4)) (goes_still rfl rfl hM)
       · exact op2 (a := 0) rfl fun e w ρ (hM : Mem _ w) E => res_ok (x_neq rfl (E.d 0 _ 27 rfl rfl rfl) (E.c _) rfl) (goes_still rfl rfl hM)
      ·
       intro e a5 w5 hz5 hd hG hO hM
       have hd5 := hd.trans hd4
       have g1_5 := (hO 1 rfl).trans g1_4
       have g2_5 := (hO 2 rfl).trans g2_4
       have g3_5 := (hO 3 rfl).trans g3_4
       have g5_5 := (hO 5 rfl).trans g5_4
       have g28_5 : a5.tmps[28]? = some (.bool (!decide ((putE r) = 0))) := hG 1 _ 28 rfl rfl
       have hM5 : Mem (rowC 5 1 (.slice a3 ((putB r).length) c3) (putB r).length ((putB r).map (.int .u8)) :: rowC 5 1 (.slice a2 ((putB r).length) c2) (putB r).length ((putB r).map (.int .u8)) :: boxC b1_0 (recCells r (.slice al r.cmd.legs.length cl) (.slice at1 r.cmd.taxes.length ct)) :: D :: R) w5 := hM
       clear hM hG hO hd
       clear hz4 hd4 hM4 g1_4 g2_4 g3_4 g4_4 g5_4
       refine then_n ?_
       by_cases hE : (putE r) = 0
       ·
        refine cond_f (g28_5.trans (by rw [decide_eq_true hE]; rfl)) ?_
        have hpp := put_pos hi hE
        have hps := put_small hi hgr
        refine wp_skip ?_
        refine then_n ?_
        refine wp_seq ?_
        refine region_seq 96 (fun zz e => (#[.slice a2 ((putB r).length) c2, .tuple #[.agg (recCells r (prt (e 0).2 0) (prt (e 0).2 1)), .int .i64 0], .tuple #[.agg (recCells r (prt (e 0).2 0) (prt (e 0).2 1)), .int .i64 0], .agg (recCells r (prt (e 0).2 0) (prt (e 0).2 1)), .int .i64 0, .pointer (some ⟨(e 1).1, 0, none⟩), undef, .int .i64 0] : Array Value).getD zz undef) (fun k e w => Mem (List.getD [rowC 5 1 (.slice a3 ((putB r).length) c3) (putB r).length ((putB r).map (.int .u8)) :: rowC 5 1 (.slice a2 ((putB r).length) c2) (putB r).length ((putB r).map (.int .u8)) :: boxC b1_0 (recCells r (.slice al r.cmd.legs.length cl) (.slice at1 r.cmd.taxes.length ct)) :: D :: R, rowC 36 3 (prt (e 0).2 0) r.cmd.legs.length (cellsL legE r.cmd.legs) :: rowC 58 2 (prt (e 0).2 1) r.cmd.taxes.length (cellsL taxE r.cmd.taxes) :: rowC 5 1 (.slice a2 ((putB r).length) c2) (putB r).length ((putB r).map (.int .u8)) :: rowC 5 1 (.slice a3 ((putB r).length) c3) (putB r).length ((putB r).map (.int .u8)) :: boxC b1_0 (recCells r (.slice al r.cmd.legs.length cl) (.slice at1 r.cmd.taxes.length ct)) :: D :: R, boxC ((e 1).1) #[.int .u8 0, .int .u8 0, .int .u8 0, .int .u64 0, .int .u8 0, .string ByteArray.empty, .slice none 0 0, .int .i64 0, .slice none 0 0, .int .i64 0, .int .i64 0, .int .u8 0, .int .u64 0, .int .u8 0, .int .u8 0, .int .u64 0, .int .u8 0, .int .u8 0, .int .u16 0, .int .u32 0, .int .i64 0, .int .u8 0, .int .u32 0, .int .i64 0, .int .i64 0] :: rowC 36 3 (prt (e 0).2 0) r.cmd.legs.length (cellsL legE r.cmd.legs) :: rowC 58 2 (prt (e 0).2 1) r.cmd.taxes.length (cellsL taxE r.cmd.taxes) :: rowC 5 1 (.slice a2 ((putB r).length) c2) (putB r).length ((putB r).map (.int .u8)) :: rowC 5 1 (.slice a3 ((putB r).length) c3) (putB r).length ((putB r).map (.int .u8)) :: boxC b1_0 (recCells r (.slice al r.cmd.legs.length cl) (.slice at1 r.cmd.taxes.length ct)) :: D :: R, boxC ((e 1).1) (recCells r (prt (e 0).2 0) (prt (e 0).2 1)) :: rowC 36 3 (prt (e 0).2 0) r.cmd.legs.length (cellsL legE r.cmd.legs) :: rowC 58 2 (prt (e 0).2 1) r.cmd.taxes.length (cellsL taxE r.cmd.taxes) :: rowC 5 1 (.slice a2 ((putB r).length) c2) (putB r).length ((putB r).map (.int .u8)) :: rowC 5 1 (.slice a3 ((putB r).length) c3) (putB r).length ((putB r).map (.int .u8)) :: boxC b1_0 (recCells r (.slice al r.cmd.legs.length cl) (.slice at1 r.cmd.taxes.length ct)) :: D :: R] k []) w) (fun _ => (0, undef)) [1, 5, 6] [0, 0, 1, 1, 1, 1, 2, 3] (fun _ _ => false) hz5 (by kernel_rfl) (by kernel_rfl) (by kernel_rfl) ?_ (show Mem _ _ from hM5) ?_ ?_
        · exact ⟨fun _ _ _ => rfl, fun e e' h => congrArg (fun x : Rv => (.tuple #[.agg (recCells r (prt x.2 0) (prt x.2 1)), .int .i64 0] : Value)) (h 0 (by decide)), fun e e' h => congrArg (fun x : Rv => (.tuple #[.agg (recCells r (prt x.2 0) (prt x.2 1)), .int .i64 0] : Value)) (h 0 (by decide)), fun e e' h => congrArg (fun x : Rv => (.agg (recCells r (prt x.2 0) (prt x.2 1)) : Value)) (h 0 (by decide)), fun _ _ _ => rfl, fun e e' h => congrArg (fun x : Rv => (.pointer (some ⟨x.1, 0, none⟩) : Value)) (h 1 (by decide)), fun _ _ _ => rfl, fun _ _ _ => rfl, trivial⟩
        ·
         refine ⟨?_, ?_, ?_, ?_, ?_, ?_, ?_, ?_, trivial⟩
         · exact op2 (a := 0) rfl fun e w ρ (hM : Mem _ w) E => res_ok (x_move rfl (E.o 3 _ rfl g3_5)) (goes_still rfl rfl hM)
         ·
          refine op2 (a := 0) rfl fun e w ρ (hM : Mem _ w) E => ?_
          have e36 : ρ (.tmp 36) = .slice a2 ((putB r).length) c2 := E.d 0 _ 36 rfl rfl rfl
          refine res_in (x_call (args := #[.slice a2 ((putB r).length) c2]) rfl rfl (E.f _) (by simp [e36]) (by kernel_rfl)) ?_
          refine (get_at a2 c2 (putB r) _ _ _ (hM.front 1 rfl) rd_row hlcA hacA (put_by hi) (Nat.le_trans (put_small hi hgr) (by decide))).mono ?_
          rintro e' w' ⟨vl', vt', he, hm⟩
          rw [(get_of_put hi hE).1, (get_of_put hi hE).2] at he
          rw [(get_of_put hi hE).2] at hm
          subst he
          exact ⟨_, rfl, goes_tick rfl (0, .agg #[vl', vt']) rfl hm⟩
         · exact op2 (a := 1) rfl fun e w ρ (hM : Mem _ w) E => res_ok (x_move rfl (E.d 1 _ 37 rfl rfl rfl)) (goes_still rfl rfl hM)
         ·
          refine op2 (a := 1) rfl fun e w ρ (hM : Mem _ w) E => ?_
          have e35 : ρ (.tmp 35) = .tuple #[.agg (recCells r (prt (e 0).2 0) (prt (e 0).2 1)), .int .i64 0] := E.d 2 _ 35 rfl rfl rfl
          exact res_ok (x_extract rfl (e35) rfl) (goes_still rfl rfl hM)
         ·
          refine op2 (a := 1) rfl fun e w ρ (hM : Mem _ w) E => ?_
          have e35 : ρ (.tmp 35) = .tuple #[.agg (recCells r (prt (e 0).2 0) (prt (e 0).2 1)), .int .i64 0] := E.d 2 _ 35 rfl rfl rfl
          exact res_ok (x_extract rfl (e35) rfl) (goes_still rfl rfl hM)
         ·
          refine op2 (a := 1) rfl fun e w ρ (hM : Mem _ w) E => ?_
          exact res_ok (x_alloc (z := .agg #[.int .u8 0, .int .u8 0, .int .u8 0, .int .u64 0, .int .u8 0, .string ByteArray.empty, .slice none 0 0, .int .i64 0, .slice none 0 0, .int .i64 0, .int .i64 0, .int .u8 0, .int .u64 0, .int .u8 0, .int .u8 0, .int .u64 0, .int .u8 0, .int .u8 0, .int .u16 0, .int .u32 0, .int .i64 0, .int .u8 0, .int .u32 0, .int .i64 0, .int .i64 0]) rfl (by kernel_rfl)) (goes_tick rfl (w.heap.size, undef) rfl (hM.alloc _ _))
         ·
          refine op2 (a := 2) rfl fun e w ρ (hM : Mem _ w) E => ?_
          have e7 := E.d 5 _ 7 rfl rfl rfl
          have e38 := E.d 3 _ 38 rfl rfl rfl
          have hrc0 := row_cell (hM.owns 1 rfl)
          have hrc1 := row_cell (hM.owns 2 rfl)
          obtain ⟨w', hr, hm⟩ := Mem.store (P := Try.prog) hM 0 rfl 44 0 (.agg (recCells r (prt (e 0).2 0) (prt (e 0).2 1))) [.int .u8 r.kind, .int .u8 r.cmd.kind, .int .u8 r.cmd.tick.c, .int .u64 r.cmd.tick.r, .int .u8 r.cmd.at_, .string r.cmd.name, (prt (e 0).2 0), .int .i64 r.cmd.fare, (prt (e 0).2 1), .int .i64 r.cmd.penalty, .int .i64 r.cmd.amount, .int .u8 r.frm, .int .u64 r.number, .int .u8 r.msg.kind, .int .u8 r.msg.tick.c, .int .u64 r.msg.tick.r, .int .u8 r.msg.at_, .int .u8 r.msg.leg.c, .int .u16 r.msg.leg.f, .int .u32 r.msg.leg.x, .int .i64 r.msg.value, .int .u8 r.msg.status, .int .u32 r.msg.nonce, .int .i64 r.msg.amount, .int .i64 r.msg.code] rfl (by kernel_rfl) (Nat.le_of_ble_eq_true rfl) (by simp only [List.all_cons, List.all_nil, Bool.and_true, hrc0.2, hrc1.2]; rfl)
          exact res_st (x_store rfl (e7) (e38) hr) (goes_tick rfl (0, undef) rfl hm)
         · exact op2 (a := 3) rfl fun e w ρ (hM : Mem _ w) E => res_ok (x_assign rfl (E.d 4 _ 39 rfl rfl rfl)) (goes_still rfl rfl hM)
        ·
         intro e a6 w6 hz6 hd hG hO hM
         have hd6 := hd.trans hd5
         have g1_6 := (hO 1 rfl).trans g1_5
         have g2_6 := (hO 2 rfl).trans g2_5
         have g3_6 := (hO 3 rfl).trans g3_5
         have g5_6 := (hO 5 rfl).trans g5_5
         have g7_6 : a6.tmps[7]? = some (.pointer (some ⟨(e 1).1, 0, none⟩)) := hG 5 _ 7 rfl rfl
         have hM6 : Mem (boxC ((e 1).1) (recCells r (prt (e 0).2 0) (prt (e 0).2 1)) :: rowC 36 3 (prt (e 0).2 0) r.cmd.legs.length (cellsL legE r.cmd.legs) :: rowC 58 2 (prt (e 0).2 1) r.cmd.taxes.length (cellsL taxE r.cmd.taxes) :: rowC 5 1 (.slice a2 ((putB r).length) c2) (putB r).length ((putB r).map (.int .u8)) :: rowC 5 1 (.slice a3 ((putB r).length) c3) (putB r).length ((putB r).map (.int .u8)) :: boxC b1_0 (recCells r (.slice al r.cmd.legs.length cl) (.slice at1 r.cmd.taxes.length ct)) :: D :: R) w6 := hM
         clear hM hG hO hd
         clear hz5 hd5 hM5 g1_5 g2_5 g3_5 g5_5 g28_5
         generalize (e 1).1 = b6_1 at *
         generalize (e 0).2 = v6_0 at *
         generalize hgv : prt v6_0 0 = gv at *
         obtain ⟨alx, clx, rfl, -, -⟩ := row_slice hM6 1 rfl
         clear hgv
         generalize hgv : prt v6_0 1 = gv at *
         obtain ⟨atx, ctx, rfl, -, -⟩ := row_slice hM6 2 rfl
         clear hgv
         refine then_n ?_
         refine wp_seq ?_
         refine wp_seq ?_
         obtain ⟨g, cap, cur0, hgv, hMb, hncap, hcapm, hcsz, -⟩ := row_box (hM6.front 3 rfl) (show 0 < (putB r).length by omega)
         injection hgv with hva hvb hvc
         subst hva
         obtain rfl : cap = c2 := hvc.symm
         replace hM6 : Mem (boxE (some 5) g cur0 :: boxC b6_1 (recCells r (.slice alx r.cmd.legs.length clx) (.slice atx r.cmd.taxes.length ctx)) :: rowC 36 3 (.slice alx r.cmd.legs.length clx) r.cmd.legs.length (cellsL legE r.cmd.legs) :: rowC 58 2 (.slice atx r.cmd.taxes.length ctx) r.cmd.taxes.length (cellsL taxE r.cmd.taxes) :: rowC 5 1 (.slice a3 ((putB r).length) c3) (putB r).length ((putB r).map (.int .u8)) :: boxC b1_0 (recCells r (.slice al r.cmd.legs.length cl) (.slice at1 r.cmd.taxes.length ct)) :: D :: R) w6 := hMb
         refine region_seq 96 (fun zz e => (#[.int .i64 0] : Array Value).getD zz undef) (fun k e w => Mem (List.getD [boxE (some 5) g cur0 :: boxC b6_1 (recCells r (.slice alx r.cmd.legs.length clx) (.slice atx r.cmd.taxes.length ctx)) :: rowC 36 3 (.slice alx r.cmd.legs.length clx) r.cmd.legs.length (cellsL legE r.cmd.legs) :: rowC 58 2 (.slice atx r.cmd.taxes.length ctx) r.cmd.taxes.length (cellsL taxE r.cmd.taxes) :: rowC 5 1 (.slice a3 ((putB r).length) c3) (putB r).length ((putB r).map (.int .u8)) :: boxC b1_0 (recCells r (.slice al r.cmd.legs.length cl) (.slice at1 r.cmd.taxes.length ct)) :: D :: R] k []) w) (fun _ => (0, undef)) [] [0] (fun _ _ => false) hz6 (by kernel_rfl) (by kernel_rfl) (by kernel_rfl) ?_ (show Mem _ _ from hM6) ?_ ?_
         · exact ⟨fun _ _ _ => rfl, trivial⟩
         ·
          refine ⟨?_, trivial⟩
          · exact op2 (a := 0) rfl fun e w ρ (hM : Mem _ w) E => res_ok (x_assign rfl (E.c _)) (goes_still rfl rfl hM)
         ·
          intro e a7 w7 hz7 hd hG hO hM
          have hd7 := hd.trans hd6
          have g1_7 := (hO 1 rfl).trans g1_6
          have g2_7 := (hO 2 rfl).trans g2_6
          have g3_7 := (hO 3 rfl).trans g3_6
          have g5_7 := (hO 5 rfl).trans g5_6
          have g7_7 := (hO 7 rfl).trans g7_6
          have g9_7 : a7.tmps[9]? = some (.int .i64 0) := hG 0 _ 9 rfl rfl
          have hM7 : Mem (boxE (some 5) g cur0 :: boxC b6_1 (recCells r (.slice alx r.cmd.legs.length clx) (.slice atx r.cmd.taxes.length ctx)) :: rowC 36 3 (.slice alx r.cmd.legs.length clx) r.cmd.legs.length (cellsL legE r.cmd.legs) :: rowC 58 2 (.slice atx r.cmd.taxes.length ctx) r.cmd.taxes.length (cellsL taxE r.cmd.taxes) :: rowC 5 1 (.slice a3 ((putB r).length) c3) (putB r).length ((putB r).map (.int .u8)) :: boxC b1_0 (recCells r (.slice al r.cmd.legs.length cl) (.slice at1 r.cmd.taxes.length ct)) :: D :: R) w7 := hM
          clear hM hG hO hd
          clear hz6 hd6 hM6 g1_6 g2_6 g3_6 g5_6 g7_6
          refine then_n ?_
          refine wp_block ?_
          refine loopx (X := Nat × Array Value) (fun xx aa ww => (fun (i : Nat) (cur : Array Value) => aa.tmps.size = 96 ∧ aa.defers = [] ∧ aa.tmps[1]? = some (.pointer (some ⟨b1_0, 0, none⟩)) ∧ aa.tmps[2]? = some (.bool false) ∧ aa.tmps[3]? = some (.slice (some ⟨g, 0, none⟩) ((putB r).length) cap) ∧ aa.tmps[5]? = some (.slice a3 ((putB r).length) c3) ∧ aa.tmps[7]? = some (.pointer (some ⟨b6_1, 0, none⟩)) ∧ aa.tmps[9]? = some (.int .i64 (i : Int)) ∧ Mem (boxE (some 5) g cur :: boxC b6_1 (recCells r (.slice alx r.cmd.legs.length clx) (.slice atx r.cmd.taxes.length ctx)) :: rowC 36 3 (.slice alx r.cmd.legs.length clx) r.cmd.legs.length (cellsL legE r.cmd.legs) :: rowC 58 2 (.slice atx r.cmd.taxes.length ctx) r.cmd.taxes.length (cellsL taxE r.cmd.taxes) :: rowC 5 1 (.slice a3 ((putB r).length) c3) (putB r).length ((putB r).map (.int .u8)) :: boxC b1_0 (recCells r (.slice al r.cmd.legs.length cl) (.slice at1 r.cmd.taxes.length ct)) :: D :: R) ww ∧ i ≤ (putB r).length ∧ cur.size = cap * 1) xx.1 xx.2) (fun xx => (fun (i : Nat) (cur : Array Value) => (putB r).length - i) xx.1 xx.2) ((0, cur0)) ?_ ?_
          ·
           exact ⟨hz7, hd7, g1_7, g2_7, g3_7, g5_7, g7_7, (by have h := g9_7; exact h.trans (by congr 2 <;> first | rfl | omega)), (hM7), (Nat.zero_le _), (hcsz)⟩
          ·
           clear hz7 hd7 hM7 g1_7 g2_7 g3_7 g5_7 g7_7 g9_7
           rintro ⟨i, cur⟩ a8 w8 hI
           dsimp only at hI ⊢
           obtain ⟨hz8, hd8, g1_8, g2_8, g3_8, g5_8, g7_8, g9_8, hM8, hi0, hcs⟩ := hI
           refine wp_seq ?_
           refine wp_seq ?_
           refine region_seq 96 (fun zz e => (#[.int .i64 (i : Int), .slice (some ⟨g, 0, none⟩) ((putB r).length) cap, .int .i64 ((putB r).length : Int), .bool (decide ((i : Int) < ((putB r).length : Int)))] : Array Value).getD zz undef) (fun k e w => Mem (List.getD [boxE (some 5) g cur :: boxC b6_1 (recCells r (.slice alx r.cmd.legs.length clx) (.slice atx r.cmd.taxes.length ctx)) :: rowC 36 3 (.slice alx r.cmd.legs.length clx) r.cmd.legs.length (cellsL legE r.cmd.legs) :: rowC 58 2 (.slice atx r.cmd.taxes.length ctx) r.cmd.taxes.length (cellsL taxE r.cmd.taxes) :: rowC 5 1 (.slice a3 ((putB r).length) c3) (putB r).length ((putB r).map (.int .u8)) :: boxC b1_0 (recCells r (.slice al r.cmd.legs.length cl) (.slice at1 r.cmd.taxes.length ct)) :: D :: R] k []) w) (fun _ => (0, undef)) [] [0, 0, 0, 0] (fun _ _ => false) hz8 (by kernel_rfl) (by kernel_rfl) (by kernel_rfl) ?_ (show Mem _ _ from hM8) ?_ ?_
           · exact ⟨fun _ _ _ => rfl, fun _ _ _ => rfl, fun _ _ _ => rfl, fun _ _ _ => rfl, trivial⟩
           ·
            refine ⟨?_, ?_, ?_, ?_, trivial⟩
            · exact op2 (a := 0) rfl fun e w ρ (hM : Mem _ w) E => res_ok (x_move rfl (E.o 9 _ rfl g9_8)) (goes_still rfl rfl hM)
            · exact op2 (a := 0) rfl fun e w ρ (hM : Mem _ w) E => res_ok (x_move rfl (E.o 3 _ rfl g3_8)) (goes_still rfl rfl hM)
            ·
             refine op2 (a := 0) rfl fun e w ρ (hM : Mem _ w) E => ?_
             have e41 : ρ (.tmp 41) = .slice (some ⟨g, 0, none⟩) ((putB r).length) cap := E.d 1 _ 41 rfl rfl rfl
             exact res_ok (x_len (n := 1) rfl rfl rfl rfl (e41) (by kernel_rfl)) (goes_still rfl rfl hM)
            · exact op2 (a := 0) rfl fun e w ρ (hM : Mem _ w) E => res_ok (x_lss rfl (E.d 0 _ 40 rfl rfl rfl) (E.d 2 _ 42 rfl rfl rfl) rfl) (goes_still rfl rfl hM)
           ·
            intro e a9 w9 hz9 hd hG hO hM
            have hd9 := hd.trans hd8
            have g1_9 := (hO 1 rfl).trans g1_8
            have g2_9 := (hO 2 rfl).trans g2_8
            have g3_9 := (hO 3 rfl).trans g3_8
            have g5_9 := (hO 5 rfl).trans g5_8
            have g7_9 := (hO 7 rfl).trans g7_8
            have g9_9 := (hO 9 rfl).trans g9_8
            have g40_9 : a9.tmps[40]? = some (.int .i64 (i : Int)) := hG 0 _ 40 rfl rfl
            have g41_9 : a9.tmps[41]? = some (.slice (some ⟨g, 0, none⟩) ((putB r).length) cap) := hG 1 _ 41 rfl rfl
            have g42_9 : a9.tmps[42]? = some (.int .i64 ((putB r).length : Int)) := hG 2 _ 42 rfl rfl
            have g43_9 : a9.tmps[43]? = some (.bool (decide ((i : Int) < ((putB r).length : Int)))) := hG 3 _ 43 rfl rfl
            have hM9 : Mem (boxE (some 5) g cur :: boxC b6_1 (recCells r (.slice alx r.cmd.legs.length clx) (.slice atx r.cmd.taxes.length ctx)) :: rowC 36 3 (.slice alx r.cmd.legs.length clx) r.cmd.legs.length (cellsL legE r.cmd.legs) :: rowC 58 2 (.slice atx r.cmd.taxes.length ctx) r.cmd.taxes.length (cellsL taxE r.cmd.taxes) :: rowC 5 1 (.slice a3 ((putB r).length) c3) (putB r).length ((putB r).map (.int .u8)) :: boxC b1_0 (recCells r (.slice al r.cmd.legs.length cl) (.slice at1 r.cmd.taxes.length ct)) :: D :: R) w9 := hM
            clear hM hG hO hd
            clear hz8 hd8 hM8 g1_8 g2_8 g3_8 g5_8 g7_8 g9_8
            refine then_n ?_
            by_cases hic : (i : Int) < ((putB r).length : Int)
            ·
             refine cond_t (g43_9.trans (by rw [decide_eq_true hic])) ?_
             refine wp_skip ?_
             refine then_n ?_
             refine wp_seq ?_
             refine wp_block ?_
             refine region_seq 96 (fun zz e => (#[.slice (some ⟨g, 0, none⟩) ((putB r).length) cap, .int .i64 (i : Int), .pointer (some ⟨g, 0 + i * 1, none⟩), undef] : Array Value).getD zz undef) (fun k e w => Mem (List.getD [boxE (some 5) g cur :: boxC b6_1 (recCells r (.slice alx r.cmd.legs.length clx) (.slice atx r.cmd.taxes.length ctx)) :: rowC 36 3 (.slice alx r.cmd.legs.length clx) r.cmd.legs.length (cellsL legE r.cmd.legs) :: rowC 58 2 (.slice atx r.cmd.taxes.length ctx) r.cmd.taxes.length (cellsL taxE r.cmd.taxes) :: rowC 5 1 (.slice a3 ((putB r).length) c3) (putB r).length ((putB r).map (.int .u8)) :: boxC b1_0 (recCells r (.slice al r.cmd.legs.length cl) (.slice at1 r.cmd.taxes.length ct)) :: D :: R, boxE (some 5) g (over cur (0 + i * 1) [.int .u8 9]) :: boxC b6_1 (recCells r (.slice alx r.cmd.legs.length clx) (.slice atx r.cmd.taxes.length ctx)) :: rowC 36 3 (.slice alx r.cmd.legs.length clx) r.cmd.legs.length (cellsL legE r.cmd.legs) :: rowC 58 2 (.slice atx r.cmd.taxes.length ctx) r.cmd.taxes.length (cellsL taxE r.cmd.taxes) :: rowC 5 1 (.slice a3 ((putB r).length) c3) (putB r).length ((putB r).map (.int .u8)) :: boxC b1_0 (recCells r (.slice al r.cmd.legs.length cl) (.slice at1 r.cmd.taxes.length ct)) :: D :: R] k []) w) (fun _ => (0, undef)) [3] [0, 0, 0, 0] (fun _ _ => false) hz9 (by kernel_rfl) (by kernel_rfl) (by kernel_rfl) ?_ (show Mem _ _ from hM9) ?_ ?_
             · exact ⟨fun _ _ _ => rfl, fun _ _ _ => rfl, fun _ _ _ => rfl, fun _ _ _ => rfl, trivial⟩
             ·
              refine ⟨?_, ?_, ?_, ?_, trivial⟩
              · exact op2 (a := 0) rfl fun e w ρ (hM : Mem _ w) E => res_ok (x_move rfl (E.o 3 _ rfl g3_9)) (goes_still rfl rfl hM)
              · exact op2 (a := 0) rfl fun e w ρ (hM : Mem _ w) E => res_ok (x_move rfl (E.o 9 _ rfl g9_9)) (goes_still rfl rfl hM)
              ·
               refine op2 (a := 0) rfl fun e w ρ (hM : Mem _ w) E => ?_
               have e46 : ρ (.tmp 46) = .slice (some ⟨g, 0, none⟩) ((putB r).length) cap := E.d 0 _ 46 rfl rfl rfl
               have e47 : ρ (.tmp 47) = .int .i64 (i : Int) := E.d 1 _ 47 rfl rfl rfl
               exact res_ok (x_idx (n := 1) (i := i) rfl (e46) (e47) (by kernel_rfl) (by omega) rfl) (goes_still rfl rfl hM)
              ·
               refine op2 (a := 0) rfl fun e w ρ (hM : Mem _ w) E => ?_
               have e48 : ρ (.tmp 48) = .pointer (some ⟨g, 0 + i * 1, none⟩) := E.d 2 _ 48 rfl rfl rfl
               obtain ⟨w', hr, hm⟩ := Mem.store (P := Try.prog) hM 0 rfl 5 ((0 + i * 1)) (.int .u8 9) [.int .u8 9] rfl (by kernel_rfl) (by simp; omega) rfl
               exact res_st (x_store rfl (e48) (E.c _) hr) (goes_tick rfl (0, undef) rfl hm)
             ·
              intro e a10 w10 hz10 hd hG hO hM
              have hd10 := hd.trans hd9
              have g1_10 := (hO 1 rfl).trans g1_9
              have g2_10 := (hO 2 rfl).trans g2_9
              have g3_10 := (hO 3 rfl).trans g3_9
              have g5_10 := (hO 5 rfl).trans g5_9
              have g7_10 := (hO 7 rfl).trans g7_9
              have g9_10 := (hO 9 rfl).trans g9_9
              have g40_10 := (hO 40 rfl).trans g40_9
              have g41_10 := (hO 41 rfl).trans g41_9
              have g42_10 := (hO 42 rfl).trans g42_9
              have g43_10 := (hO 43 rfl).trans g43_9
              have g46_10 : a10.tmps[46]? = some (.slice (some ⟨g, 0, none⟩) ((putB r).length) cap) := hG 0 _ 46 rfl rfl
              have g47_10 : a10.tmps[47]? = some (.int .i64 (i : Int)) := hG 1 _ 47 rfl rfl
              have g48_10 : a10.tmps[48]? = some (.pointer (some ⟨g, 0 + i * 1, none⟩)) := hG 2 _ 48 rfl rfl
              have hM10 : Mem (boxE (some 5) g (over cur (0 + i * 1) [.int .u8 9]) :: boxC b6_1 (recCells r (.slice alx r.cmd.legs.length clx) (.slice atx r.cmd.taxes.length ctx)) :: rowC 36 3 (.slice alx r.cmd.legs.length clx) r.cmd.legs.length (cellsL legE r.cmd.legs) :: rowC 58 2 (.slice atx r.cmd.taxes.length ctx) r.cmd.taxes.length (cellsL taxE r.cmd.taxes) :: rowC 5 1 (.slice a3 ((putB r).length) c3) (putB r).length ((putB r).map (.int .u8)) :: boxC b1_0 (recCells r (.slice al r.cmd.legs.length cl) (.slice at1 r.cmd.taxes.length ct)) :: D :: R) w10 := hM
              clear hM hG hO hd
              clear hz9 hd9 hM9 g1_9 g2_9 g3_9 g5_9 g7_9 g9_9 g40_9 g41_9 g42_9 g43_9
              refine blk_n ?_
              refine then_n ?_
              refine region_seq 96 (fun zz e => (#[.int .i64 (i : Int), .int .i64 ((i + 1 : Nat) : Int), .int .i64 ((i + 1 : Nat) : Int)] : Array Value).getD zz undef) (fun k e w => Mem (List.getD [boxE (some 5) g (over cur (0 + i * 1) [.int .u8 9]) :: boxC b6_1 (recCells r (.slice alx r.cmd.legs.length clx) (.slice atx r.cmd.taxes.length ctx)) :: rowC 36 3 (.slice alx r.cmd.legs.length clx) r.cmd.legs.length (cellsL legE r.cmd.legs) :: rowC 58 2 (.slice atx r.cmd.taxes.length ctx) r.cmd.taxes.length (cellsL taxE r.cmd.taxes) :: rowC 5 1 (.slice a3 ((putB r).length) c3) (putB r).length ((putB r).map (.int .u8)) :: boxC b1_0 (recCells r (.slice al r.cmd.legs.length cl) (.slice at1 r.cmd.taxes.length ct)) :: D :: R] k []) w) (fun _ => (0, undef)) [] [0, 0, 0] (fun i t => (i == 0 && t == 9)) hz10 (by kernel_rfl) (by kernel_rfl) (by kernel_rfl) ?_ (show Mem _ _ from hM10) ?_ ?_
              · exact ⟨fun _ _ _ => rfl, fun _ _ _ => rfl, fun _ _ _ => rfl, trivial⟩
              ·
               refine ⟨?_, ?_, ?_, trivial⟩
               · exact op2 (a := 0) rfl fun e w ρ (hM : Mem _ w) E => res_ok (x_move rfl (E.o 9 _ rfl g9_10)) (goes_still rfl rfl hM)
               · exact op2 (a := 0) rfl fun e w ρ (hM : Mem _ w) E => res_ok (x_add rfl (E.d 0 _ 44 rfl rfl rfl) (E.c _) ((wr_i64 (by omega)).trans (by omega))) (goes_still rfl rfl hM)
               · exact op2 (a := 0) rfl fun e w ρ (hM : Mem _ w) E => res_ok (x_assign rfl (E.d 1 _ 45 rfl rfl rfl)) (goes_still rfl rfl hM)
              ·
               intro e a11 w11 hz11 hd hG hO hM
               have hd11 := hd.trans hd10
               have g1_11 := (hO 1 rfl).trans g1_10
               have g2_11 := (hO 2 rfl).trans g2_10
               have g3_11 := (hO 3 rfl).trans g3_10
               have g5_11 := (hO 5 rfl).trans g5_10
               have g7_11 := (hO 7 rfl).trans g7_10
               have g9_11 : a11.tmps[9]? = some (.int .i64 ((i + 1 : Nat) : Int)) := hG 2 _ 9 rfl rfl
               have g40_11 := (hO 40 rfl).trans g40_10
               have g41_11 := (hO 41 rfl).trans g41_10
               have g42_11 := (hO 42 rfl).trans g42_10
               have g43_11 := (hO 43 rfl).trans g43_10
               have g44_11 : a11.tmps[44]? = some (.int .i64 (i : Int)) := hG 0 _ 44 rfl rfl
               have g45_11 : a11.tmps[45]? = some (.int .i64 ((i + 1 : Nat) : Int)) := hG 1 _ 45 rfl rfl
               have g46_11 := (hO 46 rfl).trans g46_10
               have g47_11 := (hO 47 rfl).trans g47_10
               have g48_11 := (hO 48 rfl).trans g48_10
               have hM11 : Mem (boxE (some 5) g (over cur (0 + i * 1) [.int .u8 9]) :: boxC b6_1 (recCells r (.slice alx r.cmd.legs.length clx) (.slice atx r.cmd.taxes.length ctx)) :: rowC 36 3 (.slice alx r.cmd.legs.length clx) r.cmd.legs.length (cellsL legE r.cmd.legs) :: rowC 58 2 (.slice atx r.cmd.taxes.length ctx) r.cmd.taxes.length (cellsL taxE r.cmd.taxes) :: rowC 5 1 (.slice a3 ((putB r).length) c3) (putB r).length ((putB r).map (.int .u8)) :: boxC b1_0 (recCells r (.slice al r.cmd.legs.length cl) (.slice at1 r.cmd.taxes.length ct)) :: D :: R) w11 := hM
               clear hM hG hO hd
               clear hz10 hd10 hM10 g1_10 g2_10 g3_10 g5_10 g7_10 g9_10 g40_10 g41_10 g42_10 g43_10 g46_10 g47_10 g48_10
               refine then_n ?_
               exact ⟨(i + 1, over cur (0 + i * 1) [.int .u8 9]), by omega, ⟨hz11, hd11, g1_11, g2_11, g3_11, g5_11, g7_11, (by have h := g9_11; exact h.trans (by congr 2 <;> first | rfl | omega)), (hM11), (by show i + 1 ≤ _; omega), (by show (over cur (0 + i * 1) [.int .u8 9]).size = cap * 1; rw [over_size (by simp; omega)]; exact hcs)⟩⟩
            ·
             refine cond_f (g43_9.trans (by rw [decide_eq_false hic])) ?_
             refine wp_exit ?_
             refine then_x ?_
             refine then_x ?_
             refine blk_x ?_
             refine then_n ?_
             refine wp_seq ?_
             refine region_seq 96 (fun zz e => (#[.agg (recCells r (.slice al r.cmd.legs.length cl) (.slice at1 r.cmd.taxes.length ct)), .tuple #[(e 0).2, .int .i64 (putE r)], .tuple #[(e 0).2, .int .i64 (putE r)], (e 0).2, .int .i64 (putE r), (e 0).2, .int .i64 (putE r)] : Array Value).getD zz undef) (fun k e w => Mem (List.getD [boxE (some 5) g cur :: boxC b6_1 (recCells r (.slice alx r.cmd.legs.length clx) (.slice atx r.cmd.taxes.length ctx)) :: rowC 36 3 (.slice alx r.cmd.legs.length clx) r.cmd.legs.length (cellsL legE r.cmd.legs) :: rowC 58 2 (.slice atx r.cmd.taxes.length ctx) r.cmd.taxes.length (cellsL taxE r.cmd.taxes) :: rowC 5 1 (.slice a3 ((putB r).length) c3) (putB r).length ((putB r).map (.int .u8)) :: boxC b1_0 (recCells r (.slice al r.cmd.legs.length cl) (.slice at1 r.cmd.taxes.length ct)) :: D :: R, rowC 5 1 (e 0).2 (putB r).length ((putB r).map (.int .u8)) :: boxE (some 5) g cur :: boxC b6_1 (recCells r (.slice alx r.cmd.legs.length clx) (.slice atx r.cmd.taxes.length ctx)) :: rowC 36 3 (.slice alx r.cmd.legs.length clx) r.cmd.legs.length (cellsL legE r.cmd.legs) :: rowC 58 2 (.slice atx r.cmd.taxes.length ctx) r.cmd.taxes.length (cellsL taxE r.cmd.taxes) :: rowC 5 1 (.slice a3 ((putB r).length) c3) (putB r).length ((putB r).map (.int .u8)) :: boxC b1_0 (recCells r (.slice al r.cmd.legs.length cl) (.slice at1 r.cmd.taxes.length ct)) :: D :: R] k []) w) (fun _ => (0, undef)) [1] [0, 0, 1, 1, 1, 1, 1] (fun _ _ => false) hz9 (by kernel_rfl) (by kernel_rfl) (by kernel_rfl) ?_ (show Mem _ _ from hM9) ?_ ?_
             · exact ⟨fun _ _ _ => rfl, fun e e' h => congrArg (fun x : Rv => (.tuple #[x.2, .int .i64 (putE r)] : Value)) (h 0 (by decide)), fun e e' h => congrArg (fun x : Rv => (.tuple #[x.2, .int .i64 (putE r)] : Value)) (h 0 (by decide)), fun e e' h => congrArg (fun x : Rv => (x.2 : Value)) (h 0 (by decide)), fun _ _ _ => rfl, fun e e' h => congrArg (fun x : Rv => (x.2 : Value)) (h 0 (by decide)), fun _ _ _ => rfl, trivial⟩
             ·
              refine ⟨?_, ?_, ?_, ?_, ?_, ?_, ?_, trivial⟩
              · exact op2 (a := 0) rfl fun e w ρ (hM : Mem _ w) E => res_ok (x_loads rfl (E.o 1 _ rfl g1_9) (by kernel_rfl) (load_part (hM.box 5 rfl) [.int .u8 r.kind, .int .u8 r.cmd.kind, .int .u8 r.cmd.tick.c, .int .u64 r.cmd.tick.r, .int .u8 r.cmd.at_, .string r.cmd.name, .slice al r.cmd.legs.length cl, .int .i64 r.cmd.fare, .slice at1 r.cmd.taxes.length ct, .int .i64 r.cmd.penalty, .int .i64 r.cmd.amount, .int .u8 r.frm, .int .u64 r.number, .int .u8 r.msg.kind, .int .u8 r.msg.tick.c, .int .u64 r.msg.tick.r, .int .u8 r.msg.at_, .int .u8 r.msg.leg.c, .int .u16 r.msg.leg.f, .int .u32 r.msg.leg.x, .int .i64 r.msg.value, .int .u8 r.msg.status, .int .u32 r.msg.nonce, .int .i64 r.msg.amount, .int .i64 r.msg.code] rfl (Nat.le_of_ble_eq_true rfl) rfl)) (goes_still rfl rfl hM)
              ·
               refine op2 (a := 0) rfl fun e w ρ (hM : Mem _ w) E => ?_
               have e50 : ρ (.tmp 50) = .agg (recCells r (.slice al r.cmd.legs.length cl) (.slice at1 r.cmd.taxes.length ct)) := E.d 0 _ 50 rfl rfl rfl
               refine res_in (x_call (args := #[.agg (recCells r (.slice al r.cmd.legs.length cl) (.slice at1 r.cmd.taxes.length ct))]) rfl rfl (E.f _) (by simp [e50]) (by kernel_rfl)) ?_
               refine (put_at r al at1 cl ct _ _ hM (rdM rl 6 rfl) (rdM rt 6 rfl) hw).mono ?_
               rintro e' w' ⟨v', rfl, hm⟩
               exact ⟨_, rfl, goes_tick rfl (0, v') rfl hm⟩
              · exact op2 (a := 1) rfl fun e w ρ (hM : Mem _ w) E => res_ok (x_move rfl (E.d 1 _ 51 rfl rfl rfl)) (goes_still rfl rfl hM)
              ·
               refine op2 (a := 1) rfl fun e w ρ (hM : Mem _ w) E => ?_
               have e49 : ρ (.tmp 49) = .tuple #[(e 0).2, .int .i64 (putE r)] := E.d 2 _ 49 rfl rfl rfl
               exact res_ok (x_extract rfl (e49) rfl) (goes_still rfl rfl hM)
              ·
               refine op2 (a := 1) rfl fun e w ρ (hM : Mem _ w) E => ?_
               have e49 : ρ (.tmp 49) = .tuple #[(e 0).2, .int .i64 (putE r)] := E.d 2 _ 49 rfl rfl rfl
               exact res_ok (x_extract rfl (e49) rfl) (goes_still rfl rfl hM)
              · exact op2 (a := 1) rfl fun e w ρ (hM : Mem _ w) E => res_ok (x_assign rfl (E.d 3 _ 52 rfl rfl rfl)) (goes_still rfl rfl hM)
              · exact op2 (a := 1) rfl fun e w ρ (hM : Mem _ w) E => res_ok (x_assign rfl (E.d 4 _ 53 rfl rfl rfl)) (goes_still rfl rfl hM)
             ·
              intro e a12 w12 hz12 hd hG hO hM
              have hd12 := hd.trans hd9
              have g1_12 := (hO 1 rfl).trans g1_9
              have g2_12 := (hO 2 rfl).trans g2_9
              have g5_12 := (hO 5 rfl).trans g5_9
              have g7_12 := (hO 7 rfl).trans g7_9
              have g10_12 : a12.tmps[10]? = some ((e 0).2) := hG 5 _ 10 rfl rfl
              have hM12 : Mem (rowC 5 1 (e 0).2 (putB r).length ((putB r).map (.int .u8)) :: boxE (some 5) g cur :: boxC b6_1 (recCells r (.slice alx r.cmd.legs.length clx) (.slice atx r.cmd.taxes.length ctx)) :: rowC 36 3 (.slice alx r.cmd.legs.length clx) r.cmd.legs.length (cellsL legE r.cmd.legs) :: rowC 58 2 (.slice atx r.cmd.taxes.length ctx) r.cmd.taxes.length (cellsL taxE r.cmd.taxes) :: rowC 5 1 (.slice a3 ((putB r).length) c3) (putB r).length ((putB r).map (.int .u8)) :: boxC b1_0 (recCells r (.slice al r.cmd.legs.length cl) (.slice at1 r.cmd.taxes.length ct)) :: D :: R) w12 := hM
              clear hM hG hO hd
              clear hz9 hd9 hM9 g1_9 g2_9 g3_9 g5_9 g7_9 g9_9 g40_9 g41_9 g42_9 g43_9
              generalize (e 0).2 = v12_0 at *
              obtain ⟨a4, c4, rfl, hrwC, hlcC, hcmC, hacC⟩ := (hM12.owns 0 rfl).row
              refine then_n ?_
              refine wp_seq ?_
              refine wp_seq ?_
              refine region_seq 96 (fun zz e => (#[.slice a3 ((putB r).length) c3, .string (ofBytes (putB r)), .slice a4 ((putB r).length) c4, .string (ofBytes (putB r)), .bool false, .bool false, .agg (recCells r (.slice alx r.cmd.legs.length clx) (.slice atx r.cmd.taxes.length ctx)), .agg (recCells r (.slice al r.cmd.legs.length cl) (.slice at1 r.cmd.taxes.length ct)), .bool true, .bool false, .bool false] : Array Value).getD zz undef) (fun k e w => Mem (List.getD [rowC 5 1 (.slice a4 ((putB r).length) c4) (putB r).length ((putB r).map (.int .u8)) :: boxE (some 5) g cur :: boxC b6_1 (recCells r (.slice alx r.cmd.legs.length clx) (.slice atx r.cmd.taxes.length ctx)) :: rowC 36 3 (.slice alx r.cmd.legs.length clx) r.cmd.legs.length (cellsL legE r.cmd.legs) :: rowC 58 2 (.slice atx r.cmd.taxes.length ctx) r.cmd.taxes.length (cellsL taxE r.cmd.taxes) :: rowC 5 1 (.slice a3 ((putB r).length) c3) (putB r).length ((putB r).map (.int .u8)) :: boxC b1_0 (recCells r (.slice al r.cmd.legs.length cl) (.slice at1 r.cmd.taxes.length ct)) :: D :: R] k []) w) (fun _ => (0, undef)) [] [0, 0, 0, 0, 0, 0, 0, 0, 0, 0, 0] (fun _ _ => false) hz12 (by kernel_rfl) (by kernel_rfl) (by kernel_rfl) ?_ (show Mem _ _ from hM12) ?_ ?_
              · exact ⟨fun _ _ _ => rfl, fun _ _ _ => rfl, fun _ _ _ => rfl, fun _ _ _ => rfl, fun _ _ _ => rfl, fun _ _ _ => rfl, fun _ _ _ => rfl, fun _ _ _ => rfl, fun _ _ _ => rfl, fun _ _ _ => rfl, fun _ _ _ => rfl, trivial⟩
              ·
               refine ⟨?_, ?_, ?_, ?_, ?_, ?_, ?_, ?_, ?_, ?_, ?_, trivial⟩
               · exact op2 (a := 0) rfl fun e w ρ (hM : Mem _ w) E => res_ok (x_move rfl (E.o 5 _ rfl g5_12)) (goes_still rfl rfl hM)
               ·
                refine op2 (a := 0) rfl fun e w ρ (hM : Mem _ w) E => ?_
                have e54 : ρ (.tmp 54) = .slice a3 ((putB r).length) c3 := E.d 0 _ 54 rfl rfl rfl
                exact res_ok (x_convert rfl (e54) (run_ofBytes (xs := putB r) Try.underlying47 Try.underlying5 Try.underlying9 rfl (rd_row.row hM 5 rfl))) (goes_still rfl rfl hM)
               · exact op2 (a := 0) rfl fun e w ρ (hM : Mem _ w) E => res_ok (x_move rfl (E.o 10 _ rfl g10_12)) (goes_still rfl rfl hM)
               ·
                refine op2 (a := 0) rfl fun e w ρ (hM : Mem _ w) E => ?_
                have e56 : ρ (.tmp 56) = .slice a4 ((putB r).length) c4 := E.d 2 _ 56 rfl rfl rfl
                exact res_ok (x_convert rfl (e56) (run_ofBytes (xs := putB r) Try.underlying47 Try.underlying5 Try.underlying9 rfl (rd_row.row hM 0 rfl))) (goes_still rfl rfl hM)
               ·
                refine op2 (a := 0) rfl fun e w ρ (hM : Mem _ w) E => ?_
                have e55 : ρ (.tmp 55) = .string (ofBytes (putB r)) := E.d 1 _ 55 rfl rfl rfl
                have e57 : ρ (.tmp 57) = .string (ofBytes (putB r)) := E.d 3 _ 57 rfl rfl rfl
                exact res_ok (x_neS rfl (e55) (e57) (by rw [decide_eq_true rfl]; rfl)) (goes_still rfl rfl hM)
               · exact op2 (a := 0) rfl fun e w ρ (hM : Mem _ w) E => res_ok (x_move rfl (E.d 4 _ 58 rfl rfl rfl)) (goes_still rfl rfl hM)
               · exact op1 (a := 0) rfl fun e w ρ (hM : Mem _ w) E => (if_pos rfl).mpr (res_ok (x_loads rfl (E.o 7 _ rfl g7_12) (by kernel_rfl) (load_part (hM.box 2 rfl) [.int .u8 r.kind, .int .u8 r.cmd.kind, .int .u8 r.cmd.tick.c, .int .u64 r.cmd.tick.r, .int .u8 r.cmd.at_, .string r.cmd.name, .slice alx r.cmd.legs.length clx, .int .i64 r.cmd.fare, .slice atx r.cmd.taxes.length ctx, .int .i64 r.cmd.penalty, .int .i64 r.cmd.amount, .int .u8 r.frm, .int .u64 r.number, .int .u8 r.msg.kind, .int .u8 r.msg.tick.c, .int .u64 r.msg.tick.r, .int .u8 r.msg.at_, .int .u8 r.msg.leg.c, .int .u16 r.msg.leg.f, .int .u32 r.msg.leg.x, .int .i64 r.msg.value, .int .u8 r.msg.status, .int .u32 r.msg.nonce, .int .i64 r.msg.amount, .int .i64 r.msg.code] rfl (Nat.le_of_ble_eq_true rfl) rfl)) (goes_still rfl rfl hM))
               · exact op1 (a := 0) rfl fun e w ρ (hM : Mem _ w) E => (if_pos rfl).mpr (res_ok (x_loads rfl (E.o 1 _ rfl g1_12) (by kernel_rfl) (load_part (hM.box 6 rfl) [.int .u8 r.kind, .int .u8 r.cmd.kind, .int .u8 r.cmd.tick.c, .int .u64 r.cmd.tick.r, .int .u8 r.cmd.at_, .string r.cmd.name, .slice al r.cmd.legs.length cl, .int .i64 r.cmd.fare, .slice at1 r.cmd.taxes.length ct, .int .i64 r.cmd.penalty, .int .i64 r.cmd.amount, .int .u8 r.frm, .int .u64 r.number, .int .u8 r.msg.kind, .int .u8 r.msg.tick.c, .int .u64 r.msg.tick.r, .int .u8 r.msg.at_, .int .u8 r.msg.leg.c, .int .u16 r.msg.leg.f, .int .u32 r.msg.leg.x, .int .i64 r.msg.value, .int .u8 r.msg.status, .int .u32 r.msg.nonce, .int .i64 r.msg.amount, .int .i64 r.msg.code] rfl (Nat.le_of_ble_eq_true rfl) rfl)) (goes_still rfl rfl hM))
               ·
                refine op1 (a := 0) rfl fun e w ρ (hM : Mem _ w) E => ?_
                have e60 : ρ (.tmp 60) = .agg (recCells r (.slice alx r.cmd.legs.length clx) (.slice atx r.cmd.taxes.length ctx)) := E.d 6 _ 60 rfl rfl rfl
                have e61 : ρ (.tmp 61) = .agg (recCells r (.slice al r.cmd.legs.length cl) (.slice at1 r.cmd.taxes.length ct)) := E.d 7 _ 61 rfl rfl rfl
                refine (if_pos rfl).mpr ?_
                refine res_in (x_call (args := #[.agg (recCells r (.slice alx r.cmd.legs.length clx) (.slice atx r.cmd.taxes.length ctx)), .agg (recCells r (.slice al r.cmd.legs.length cl) (.slice at1 r.cmd.taxes.length ct))]) rfl rfl (E.f _) (by simp [e60, e61]) (by kernel_rfl)) ?_
                refine (rsame_at r r alx atx al at1 clx ctx cl ct _ _ hM (Reads.own 3 rfl) (Reads.own 4 rfl) ⟨hw.legs, hw.taxes⟩ (rdM rl 7 rfl) (rdM rt 7 rfl) ⟨hw.legs, hw.taxes⟩).mono ?_
                rintro e' w' ⟨he, hm⟩
                rw [sameW_self] at he
                subst he
                exact ⟨_, rfl, goes_still rfl rfl (hm)⟩
               · exact op1 (a := 0) rfl fun e w ρ (hM : Mem _ w) E => (if_pos rfl).mpr (res_ok (x_not rfl (E.d 8 _ 62 rfl rfl rfl) (rfl)) (goes_still rfl rfl hM))
               ·
                refine op2 (a := 0) rfl fun e w ρ (hM : Mem _ w) E => ?_
                have e59 : ρ (.tmp 59) = .bool false := E.d 5 _ 59 rfl rfl rfl
                have e63 : ρ (.tmp 63) = .bool false := E.d 9 _ 63 rfl rfl rfl
                exact res_ok (x_pick rfl (e59) (e63)) (goes_still rfl rfl hM)
              ·
               intro e a13 w13 hz13 hd hG hO hM
               have hd13 := hd.trans hd12
               have g1_13 := (hO 1 rfl).trans g1_12
               have g2_13 := (hO 2 rfl).trans g2_12
               have g5_13 := (hO 5 rfl).trans g5_12
               have g7_13 := (hO 7 rfl).trans g7_12
               have g64_13 : a13.tmps[64]? = some (.bool false) := hG 10 _ 64 rfl rfl
               have hM13 : Mem (rowC 5 1 (.slice a4 ((putB r).length) c4) (putB r).length ((putB r).map (.int .u8)) :: boxE (some 5) g cur :: boxC b6_1 (recCells r (.slice alx r.cmd.legs.length clx) (.slice atx r.cmd.taxes.length ctx)) :: rowC 36 3 (.slice alx r.cmd.legs.length clx) r.cmd.legs.length (cellsL legE r.cmd.legs) :: rowC 58 2 (.slice atx r.cmd.taxes.length ctx) r.cmd.taxes.length (cellsL taxE r.cmd.taxes) :: rowC 5 1 (.slice a3 ((putB r).length) c3) (putB r).length ((putB r).map (.int .u8)) :: boxC b1_0 (recCells r (.slice al r.cmd.legs.length cl) (.slice at1 r.cmd.taxes.length ct)) :: D :: R) w13 := hM
               clear hM hG hO hd
               clear hz12 hd12 hM12 g1_12 g2_12 g5_12 g7_12 g10_12
               refine then_n ?_
               refine cond_f g64_13 ?_
               refine wp_skip ?_
               refine then_n ?_
               refine wp_seq ?_
               refine wp_seq ?_
               rcases Nat.eq_zero_or_pos r.cmd.legs.length with hln | hln
               ·
                refine region_seq 96 (fun zz e => (#[.int .i64 0] : Array Value).getD zz undef) (fun k e w => Mem (List.getD [rowC 5 1 (.slice a4 ((putB r).length) c4) (putB r).length ((putB r).map (.int .u8)) :: boxE (some 5) g cur :: boxC b6_1 (recCells r (.slice alx r.cmd.legs.length clx) (.slice atx r.cmd.taxes.length ctx)) :: rowC 36 3 (.slice alx r.cmd.legs.length clx) r.cmd.legs.length (cellsL legE r.cmd.legs) :: rowC 58 2 (.slice atx r.cmd.taxes.length ctx) r.cmd.taxes.length (cellsL taxE r.cmd.taxes) :: rowC 5 1 (.slice a3 ((putB r).length) c3) (putB r).length ((putB r).map (.int .u8)) :: boxC b1_0 (recCells r (.slice al r.cmd.legs.length cl) (.slice at1 r.cmd.taxes.length ct)) :: D :: R] k []) w) (fun _ => (0, undef)) [] [0] (fun _ _ => false) hz13 (by kernel_rfl) (by kernel_rfl) (by kernel_rfl) ?_ (show Mem _ _ from hM13) ?_ ?_
                · exact ⟨fun _ _ _ => rfl, trivial⟩
                ·
                 refine ⟨?_, trivial⟩
                 · exact op2 (a := 0) rfl fun e w ρ (hM : Mem _ w) E => res_ok (x_assign rfl (E.c _)) (goes_still rfl rfl hM)
                ·
                 intro e a14 w14 hz14 hd hG hO hM
                 have hd14 := hd.trans hd13
                 have g1_14 := (hO 1 rfl).trans g1_13
                 have g2_14 := (hO 2 rfl).trans g2_13
                 have g5_14 := (hO 5 rfl).trans g5_13
                 have g7_14 := (hO 7 rfl).trans g7_13
                 have g12_14 : a14.tmps[12]? = some (.int .i64 0) := hG 0 _ 12 rfl rfl
                 have hM14 : Mem (rowC 5 1 (.slice a4 ((putB r).length) c4) (putB r).length ((putB r).map (.int .u8)) :: boxE (some 5) g cur :: boxC b6_1 (recCells r (.slice alx r.cmd.legs.length clx) (.slice atx r.cmd.taxes.length ctx)) :: rowC 36 3 (.slice alx r.cmd.legs.length clx) r.cmd.legs.length (cellsL legE r.cmd.legs) :: rowC 58 2 (.slice atx r.cmd.taxes.length ctx) r.cmd.taxes.length (cellsL taxE r.cmd.taxes) :: rowC 5 1 (.slice a3 ((putB r).length) c3) (putB r).length ((putB r).map (.int .u8)) :: boxC b1_0 (recCells r (.slice al r.cmd.legs.length cl) (.slice at1 r.cmd.taxes.length ct)) :: D :: R) w14 := hM
                 clear hM hG hO hd
                 clear hz13 hd13 hM13 g1_13 g2_13 g5_13 g7_13 g64_13
                 refine then_n ?_
                 refine wp_block ?_
                 refine loopx (X := Unit) (fun xx aa ww => aa.tmps.size = 96 ∧ aa.defers = [] ∧ aa.tmps[1]? = some (.pointer (some ⟨b1_0, 0, none⟩)) ∧ aa.tmps[2]? = some (.bool false) ∧ aa.tmps[5]? = some (.slice a3 ((putB r).length) c3) ∧ aa.tmps[7]? = some (.pointer (some ⟨b6_1, 0, none⟩)) ∧ aa.tmps[12]? = some (.int .i64 0) ∧ Mem (rowC 5 1 (.slice a4 ((putB r).length) c4) (putB r).length ((putB r).map (.int .u8)) :: boxE (some 5) g cur :: boxC b6_1 (recCells r (.slice alx r.cmd.legs.length clx) (.slice atx r.cmd.taxes.length ctx)) :: rowC 36 3 (.slice alx r.cmd.legs.length clx) r.cmd.legs.length (cellsL legE r.cmd.legs) :: rowC 58 2 (.slice atx r.cmd.taxes.length ctx) r.cmd.taxes.length (cellsL taxE r.cmd.taxes) :: rowC 5 1 (.slice a3 ((putB r).length) c3) (putB r).length ((putB r).map (.int .u8)) :: boxC b1_0 (recCells r (.slice al r.cmd.legs.length cl) (.slice at1 r.cmd.taxes.length ct)) :: D :: R) ww) (fun _ => 0) (()) ?_ ?_
                 ·
                  exact ⟨hz14, hd14, g1_14, g2_14, g5_14, g7_14, g12_14, (hM14)⟩
                 ·
                  clear hz14 hd14 hM14 g1_14 g2_14 g5_14 g7_14 g12_14
                  rintro _ a15 w15 hI
                  obtain ⟨hz15, hd15, g1_15, g2_15, g5_15, g7_15, g12_15, hM15⟩ := hI
                  refine wp_seq ?_
                  refine wp_seq ?_
                  refine region_seq 96 (fun zz e => (#[.int .i64 0, .pointer (some ⟨b6_1, 1, none⟩), .pointer (some ⟨b6_1, 5, none⟩), .pointer (some ⟨b6_1, 6, none⟩), .slice alx r.cmd.legs.length clx, .int .i64 (r.cmd.legs.length : Int), .bool (decide (0 < (r.cmd.legs.length : Int)))] : Array Value).getD zz undef) (fun k e w => Mem (List.getD [rowC 5 1 (.slice a4 ((putB r).length) c4) (putB r).length ((putB r).map (.int .u8)) :: boxE (some 5) g cur :: boxC b6_1 (recCells r (.slice alx r.cmd.legs.length clx) (.slice atx r.cmd.taxes.length ctx)) :: rowC 36 3 (.slice alx r.cmd.legs.length clx) r.cmd.legs.length (cellsL legE r.cmd.legs) :: rowC 58 2 (.slice atx r.cmd.taxes.length ctx) r.cmd.taxes.length (cellsL taxE r.cmd.taxes) :: rowC 5 1 (.slice a3 ((putB r).length) c3) (putB r).length ((putB r).map (.int .u8)) :: boxC b1_0 (recCells r (.slice al r.cmd.legs.length cl) (.slice at1 r.cmd.taxes.length ct)) :: D :: R] k []) w) (fun _ => (0, undef)) [] [0, 0, 0, 0, 0, 0, 0] (fun _ _ => false) hz15 (by kernel_rfl) (by kernel_rfl) (by kernel_rfl) ?_ (show Mem _ _ from hM15) ?_ ?_
                  · exact ⟨fun _ _ _ => rfl, fun _ _ _ => rfl, fun _ _ _ => rfl, fun _ _ _ => rfl, fun _ _ _ => rfl, fun _ _ _ => rfl, fun _ _ _ => rfl, trivial⟩
                  ·
                   refine ⟨?_, ?_, ?_, ?_, ?_, ?_, ?_, trivial⟩
                   · exact op2 (a := 0) rfl fun e w ρ (hM : Mem _ w) E => res_ok (x_move rfl (E.o 12 _ rfl g12_15)) (goes_still rfl rfl hM)
                   · exact op2 (a := 0) rfl fun e w ρ (hM : Mem _ w) E => res_ok (x_fieldAddr (off := 1) rfl (E.o 7 _ rfl g7_15) (by kernel_rfl) rfl) (goes_still rfl rfl hM)
                   · exact op2 (a := 0) rfl fun e w ρ (hM : Mem _ w) E => res_ok (x_fieldAddr (off := 4) rfl (E.d 1 _ 66 rfl rfl rfl) (by kernel_rfl) rfl) (goes_still rfl rfl hM)
                   · exact op2 (a := 0) rfl fun e w ρ (hM : Mem _ w) E => res_ok (x_fieldAddr (off := 1) rfl (E.d 2 _ 67 rfl rfl rfl) (by kernel_rfl) rfl) (goes_still rfl rfl hM)
                   · exact op2 (a := 0) rfl fun e w ρ (hM : Mem _ w) E => res_ok (x_load rfl (E.d 3 _ 68 rfl rfl rfl) (by kernel_rfl) ((hM.box 2 rfl).cell 6 rfl)) (goes_still rfl rfl hM)
                   ·
                    refine op2 (a := 0) rfl fun e w ρ (hM : Mem _ w) E => ?_
                    have e69 : ρ (.tmp 69) = .slice alx r.cmd.legs.length clx := E.d 4 _ 69 rfl rfl rfl
                    exact res_ok (x_len (n := 3) rfl rfl rfl rfl (e69) (by kernel_rfl)) (goes_still rfl rfl hM)
                   · exact op2 (a := 0) rfl fun e w ρ (hM : Mem _ w) E => res_ok (x_lss rfl (E.d 0 _ 65 rfl rfl rfl) (E.d 5 _ 70 rfl rfl rfl) rfl) (goes_still rfl rfl hM)
                  ·
                   intro e a16 w16 hz16 hd hG hO hM
                   have hd16 := hd.trans hd15
                   have g1_16 := (hO 1 rfl).trans g1_15
                   have g2_16 := (hO 2 rfl).trans g2_15
                   have g5_16 := (hO 5 rfl).trans g5_15
                   have g7_16 := (hO 7 rfl).trans g7_15
                   have g12_16 := (hO 12 rfl).trans g12_15
                   have g65_16 : a16.tmps[65]? = some (.int .i64 0) := hG 0 _ 65 rfl rfl
                   have g66_16 : a16.tmps[66]? = some (.pointer (some ⟨b6_1, 1, none⟩)) := hG 1 _ 66 rfl rfl
                   have g67_16 : a16.tmps[67]? = some (.pointer (some ⟨b6_1, 5, none⟩)) := hG 2 _ 67 rfl rfl
                   have g68_16 : a16.tmps[68]? = some (.pointer (some ⟨b6_1, 6, none⟩)) := hG 3 _ 68 rfl rfl
                   have g69_16 : a16.tmps[69]? = some (.slice alx r.cmd.legs.length clx) := hG 4 _ 69 rfl rfl
                   have g70_16 : a16.tmps[70]? = some (.int .i64 (r.cmd.legs.length : Int)) := hG 5 _ 70 rfl rfl
                   have g71_16 : a16.tmps[71]? = some (.bool (decide (0 < (r.cmd.legs.length : Int)))) := hG 6 _ 71 rfl rfl
                   have hM16 : Mem (rowC 5 1 (.slice a4 ((putB r).length) c4) (putB r).length ((putB r).map (.int .u8)) :: boxE (some 5) g cur :: boxC b6_1 (recCells r (.slice alx r.cmd.legs.length clx) (.slice atx r.cmd.taxes.length ctx)) :: rowC 36 3 (.slice alx r.cmd.legs.length clx) r.cmd.legs.length (cellsL legE r.cmd.legs) :: rowC 58 2 (.slice atx r.cmd.taxes.length ctx) r.cmd.taxes.length (cellsL taxE r.cmd.taxes) :: rowC 5 1 (.slice a3 ((putB r).length) c3) (putB r).length ((putB r).map (.int .u8)) :: boxC b1_0 (recCells r (.slice al r.cmd.legs.length cl) (.slice at1 r.cmd.taxes.length ct)) :: D :: R) w16 := hM
                   clear hM hG hO hd
                   clear hz15 hd15 hM15 g1_15 g2_15 g5_15 g7_15 g12_15
                   refine then_n ?_
                   by_cases hc4 : 0 < (r.cmd.legs.length : Int)
                   ·
                    refine cond_t (g71_16.trans (by rw [decide_eq_true hc4])) ?_
                    exfalso; omega
                   ·
                    refine cond_f (g71_16.trans (by rw [decide_eq_false hc4])) ?_
                    refine wp_exit ?_
                    refine then_x ?_
                    refine then_x ?_
                    refine blk_x ?_
                    refine then_n ?_
                    refine wp_seq ?_
                    refine region_seq 96 (fun zz e => (#[.slice a3 ((putB r).length) c3, .tuple #[.agg (recCells r (prt (e 0).2 0) (prt (e 0).2 1)), .int .i64 0], .tuple #[.agg (recCells r (prt (e 0).2 0) (prt (e 0).2 1)), .int .i64 0], .agg (recCells r (prt (e 0).2 0) (prt (e 0).2 1)), .int .i64 0, .pointer (some ⟨(e 1).1, 0, none⟩), undef, .int .i64 0] : Array Value).getD zz undef) (fun k e w => Mem (List.getD [rowC 5 1 (.slice a4 ((putB r).length) c4) (putB r).length ((putB r).map (.int .u8)) :: boxE (some 5) g cur :: boxC b6_1 (recCells r (.slice alx r.cmd.legs.length clx) (.slice atx r.cmd.taxes.length ctx)) :: rowC 36 3 (.slice alx r.cmd.legs.length clx) r.cmd.legs.length (cellsL legE r.cmd.legs) :: rowC 58 2 (.slice atx r.cmd.taxes.length ctx) r.cmd.taxes.length (cellsL taxE r.cmd.taxes) :: rowC 5 1 (.slice a3 ((putB r).length) c3) (putB r).length ((putB r).map (.int .u8)) :: boxC b1_0 (recCells r (.slice al r.cmd.legs.length cl) (.slice at1 r.cmd.taxes.length ct)) :: D :: R, rowC 36 3 (prt (e 0).2 0) r.cmd.legs.length (cellsL legE r.cmd.legs) :: rowC 58 2 (prt (e 0).2 1) r.cmd.taxes.length (cellsL taxE r.cmd.taxes) :: rowC 5 1 (.slice a3 ((putB r).length) c3) (putB r).length ((putB r).map (.int .u8)) :: rowC 5 1 (.slice a4 ((putB r).length) c4) (putB r).length ((putB r).map (.int .u8)) :: boxE (some 5) g cur :: boxC b6_1 (recCells r (.slice alx r.cmd.legs.length clx) (.slice atx r.cmd.taxes.length ctx)) :: rowC 36 3 (.slice alx r.cmd.legs.length clx) r.cmd.legs.length (cellsL legE r.cmd.legs) :: rowC 58 2 (.slice atx r.cmd.taxes.length ctx) r.cmd.taxes.length (cellsL taxE r.cmd.taxes) :: boxC b1_0 (recCells r (.slice al r.cmd.legs.length cl) (.slice at1 r.cmd.taxes.length ct)) :: D :: R, boxC ((e 1).1) #[.int .u8 0, .int .u8 0, .int .u8 0, .int .u64 0, .int .u8 0, .string ByteArray.empty, .slice none 0 0, .int .i64 0, .slice none 0 0, .int .i64 0, .int .i64 0, .int .u8 0, .int .u64 0, .int .u8 0, .int .u8 0, .int .u64 0, .int .u8 0, .int .u8 0, .int .u16 0, .int .u32 0, .int .i64 0, .int .u8 0, .int .u32 0, .int .i64 0, .int .i64 0] :: rowC 36 3 (prt (e 0).2 0) r.cmd.legs.length (cellsL legE r.cmd.legs) :: rowC 58 2 (prt (e 0).2 1) r.cmd.taxes.length (cellsL taxE r.cmd.taxes) :: rowC 5 1 (.slice a3 ((putB r).length) c3) (putB r).length ((putB r).map (.int .u8)) :: rowC 5 1 (.slice a4 ((putB r).length) c4) (putB r).length ((putB r).map (.int .u8)) :: boxE (some 5) g cur :: boxC b6_1 (recCells r (.slice alx r.cmd.legs.length clx) (.slice atx r.cmd.taxes.length ctx)) :: rowC 36 3 (.slice alx r.cmd.legs.length clx) r.cmd.legs.length (cellsL legE r.cmd.legs) :: rowC 58 2 (.slice atx r.cmd.taxes.length ctx) r.cmd.taxes.length (cellsL taxE r.cmd.taxes) :: boxC b1_0 (recCells r (.slice al r.cmd.legs.length cl) (.slice at1 r.cmd.taxes.length ct)) :: D :: R, boxC ((e 1).1) (recCells r (prt (e 0).2 0) (prt (e 0).2 1)) :: rowC 36 3 (prt (e 0).2 0) r.cmd.legs.length (cellsL legE r.cmd.legs) :: rowC 58 2 (prt (e 0).2 1) r.cmd.taxes.length (cellsL taxE r.cmd.taxes) :: rowC 5 1 (.slice a3 ((putB r).length) c3) (putB r).length ((putB r).map (.int .u8)) :: rowC 5 1 (.slice a4 ((putB r).length) c4) (putB r).length ((putB r).map (.int .u8)) :: boxE (some 5) g cur :: boxC b6_1 (recCells r (.slice alx r.cmd.legs.length clx) (.slice atx r.cmd.taxes.length ctx)) :: rowC 36 3 (.slice alx r.cmd.legs.length clx) r.cmd.legs.length (cellsL legE r.cmd.legs) :: rowC 58 2 (.slice atx r.cmd.taxes.length ctx) r.cmd.taxes.length (cellsL taxE r.cmd.taxes) :: boxC b1_0 (recCells r (.slice al r.cmd.legs.length cl) (.slice at1 r.cmd.taxes.length ct)) :: D :: R] k []) w) (fun _ => (0, undef)) [1, 5, 6] [0, 0, 1, 1, 1, 1, 2, 3] (fun _ _ => false) hz16 (by kernel_rfl) (by kernel_rfl) (by kernel_rfl) ?_ (show Mem _ _ from hM16) ?_ ?_
                    · exact ⟨fun _ _ _ => rfl, fun e e' h => congrArg (fun x : Rv => (.tuple #[.agg (recCells r (prt x.2 0) (prt x.2 1)), .int .i64 0] : Value)) (h 0 (by decide)), fun e e' h => congrArg (fun x : Rv => (.tuple #[.agg (recCells r (prt x.2 0) (prt x.2 1)), .int .i64 0] : Value)) (h 0 (by decide)), fun e e' h => congrArg (fun x : Rv => (.agg (recCells r (prt x.2 0) (prt x.2 1)) : Value)) (h 0 (by decide)), fun _ _ _ => rfl, fun e e' h => congrArg (fun x : Rv => (.pointer (some ⟨x.1, 0, none⟩) : Value)) (h 1 (by decide)), fun _ _ _ => rfl, fun _ _ _ => rfl, trivial⟩
                    ·
                     refine ⟨?_, ?_, ?_, ?_, ?_, ?_, ?_, ?_, trivial⟩
                     · exact op2 (a := 0) rfl fun e w ρ (hM : Mem _ w) E => res_ok (x_move rfl (E.o 5 _ rfl g5_16)) (goes_still rfl rfl hM)
                     ·
                      refine op2 (a := 0) rfl fun e w ρ (hM : Mem _ w) E => ?_
                      have e86 : ρ (.tmp 86) = .slice a3 ((putB r).length) c3 := E.d 0 _ 86 rfl rfl rfl
                      refine res_in (x_call (args := #[.slice a3 ((putB r).length) c3]) rfl rfl (E.f _) (by simp [e86]) (by kernel_rfl)) ?_
                      refine (get_at a3 c3 (putB r) _ _ _ (hM.front 5 rfl) rd_row hlcB hacB (put_by hi) (Nat.le_trans (put_small hi hgr) (by decide))).mono ?_
                      rintro e' w' ⟨vl', vt', he, hm⟩
                      rw [(get_of_put hi hE).1, (get_of_put hi hE).2] at he
                      rw [(get_of_put hi hE).2] at hm
                      subst he
                      exact ⟨_, rfl, goes_tick rfl (0, .agg #[vl', vt']) rfl hm⟩
                     · exact op2 (a := 1) rfl fun e w ρ (hM : Mem _ w) E => res_ok (x_move rfl (E.d 1 _ 87 rfl rfl rfl)) (goes_still rfl rfl hM)
                     ·
                      refine op2 (a := 1) rfl fun e w ρ (hM : Mem _ w) E => ?_
                      have e85 : ρ (.tmp 85) = .tuple #[.agg (recCells r (prt (e 0).2 0) (prt (e 0).2 1)), .int .i64 0] := E.d 2 _ 85 rfl rfl rfl
                      exact res_ok (x_extract rfl (e85) rfl) (goes_still rfl rfl hM)
                     ·
                      refine op2 (a := 1) rfl fun e w ρ (hM : Mem _ w) E => ?_
                      have e85 : ρ (.tmp 85) = .tuple #[.agg (recCells r (prt (e 0).2 0) (prt (e 0).2 1)), .int .i64 0] := E.d 2 _ 85 rfl rfl rfl
                      exact res_ok (x_extract rfl (e85) rfl) (goes_still rfl rfl hM)
                     ·
                      refine op2 (a := 1) rfl fun e w ρ (hM : Mem _ w) E => ?_
                      exact res_ok (x_alloc (z := .agg #[.int .u8 0, .int .u8 0, .int .u8 0, .int .u64 0, .int .u8 0, .string ByteArray.empty, .slice none 0 0, .int .i64 0, .slice none 0 0, .int .i64 0, .int .i64 0, .int .u8 0, .int .u64 0, .int .u8 0, .int .u8 0, .int .u64 0, .int .u8 0, .int .u8 0, .int .u16 0, .int .u32 0, .int .i64 0, .int .u8 0, .int .u32 0, .int .i64 0, .int .i64 0]) rfl (by kernel_rfl)) (goes_tick rfl (w.heap.size, undef) rfl (hM.alloc _ _))
                     ·
                      refine op2 (a := 2) rfl fun e w ρ (hM : Mem _ w) E => ?_
                      have e13 := E.d 5 _ 13 rfl rfl rfl
                      have e88 := E.d 3 _ 88 rfl rfl rfl
                      have hrc0 := row_cell (hM.owns 1 rfl)
                      have hrc1 := row_cell (hM.owns 2 rfl)
                      obtain ⟨w', hr, hm⟩ := Mem.store (P := Try.prog) hM 0 rfl 44 0 (.agg (recCells r (prt (e 0).2 0) (prt (e 0).2 1))) [.int .u8 r.kind, .int .u8 r.cmd.kind, .int .u8 r.cmd.tick.c, .int .u64 r.cmd.tick.r, .int .u8 r.cmd.at_, .string r.cmd.name, (prt (e 0).2 0), .int .i64 r.cmd.fare, (prt (e 0).2 1), .int .i64 r.cmd.penalty, .int .i64 r.cmd.amount, .int .u8 r.frm, .int .u64 r.number, .int .u8 r.msg.kind, .int .u8 r.msg.tick.c, .int .u64 r.msg.tick.r, .int .u8 r.msg.at_, .int .u8 r.msg.leg.c, .int .u16 r.msg.leg.f, .int .u32 r.msg.leg.x, .int .i64 r.msg.value, .int .u8 r.msg.status, .int .u32 r.msg.nonce, .int .i64 r.msg.amount, .int .i64 r.msg.code] rfl (by kernel_rfl) (Nat.le_of_ble_eq_true rfl) (by simp only [List.all_cons, List.all_nil, Bool.and_true, hrc0.2, hrc1.2]; rfl)
                      exact res_st (x_store rfl (e13) (e88) hr) (goes_tick rfl (0, undef) rfl hm)
                     · exact op2 (a := 3) rfl fun e w ρ (hM : Mem _ w) E => res_ok (x_assign rfl (E.d 4 _ 89 rfl rfl rfl)) (goes_still rfl rfl hM)
                    ·
                     intro e a17 w17 hz17 hd hG hO hM
                     have hd17 := hd.trans hd16
                     have g1_17 := (hO 1 rfl).trans g1_16
                     have g2_17 := (hO 2 rfl).trans g2_16
                     have g13_17 : a17.tmps[13]? = some (.pointer (some ⟨(e 1).1, 0, none⟩)) := hG 5 _ 13 rfl rfl
                     have hM17 : Mem (boxC ((e 1).1) (recCells r (prt (e 0).2 0) (prt (e 0).2 1)) :: rowC 36 3 (prt (e 0).2 0) r.cmd.legs.length (cellsL legE r.cmd.legs) :: rowC 58 2 (prt (e 0).2 1) r.cmd.taxes.length (cellsL taxE r.cmd.taxes) :: rowC 5 1 (.slice a3 ((putB r).length) c3) (putB r).length ((putB r).map (.int .u8)) :: rowC 5 1 (.slice a4 ((putB r).length) c4) (putB r).length ((putB r).map (.int .u8)) :: boxE (some 5) g cur :: boxC b6_1 (recCells r (.slice alx r.cmd.legs.length clx) (.slice atx r.cmd.taxes.length ctx)) :: rowC 36 3 (.slice alx r.cmd.legs.length clx) r.cmd.legs.length (cellsL legE r.cmd.legs) :: rowC 58 2 (.slice atx r.cmd.taxes.length ctx) r.cmd.taxes.length (cellsL taxE r.cmd.taxes) :: boxC b1_0 (recCells r (.slice al r.cmd.legs.length cl) (.slice at1 r.cmd.taxes.length ct)) :: D :: R) w17 := hM
                     clear hM hG hO hd
                     clear hz16 hd16 hM16 g1_16 g2_16 g5_16 g7_16 g12_16 g65_16 g66_16 g67_16 g68_16 g69_16 g70_16 g71_16
                     generalize (e 1).1 = b17_1 at *
                     generalize (e 0).2 = v17_0 at *
                     generalize hgv : prt v17_0 0 = gv at *
                     obtain ⟨aly, cly, rfl, -, -⟩ := row_slice hM17 1 rfl
                     clear hgv
                     generalize hgv : prt v17_0 1 = gv at *
                     obtain ⟨aty, cty, rfl, -, -⟩ := row_slice hM17 2 rfl
                     clear hgv
                     refine then_n ?_
                     refine wp_seq ?_
                     refine region_seq 96 (fun zz e => (#[.agg (recCells r (.slice aly r.cmd.legs.length cly) (.slice aty r.cmd.taxes.length cty)), .agg (recCells r (.slice al r.cmd.legs.length cl) (.slice at1 r.cmd.taxes.length ct)), .bool true, .bool true, .bool true, .bool true, .bool true] : Array Value).getD zz undef) (fun k e w => Mem (List.getD [boxC b17_1 (recCells r (.slice aly r.cmd.legs.length cly) (.slice aty r.cmd.taxes.length cty)) :: rowC 36 3 (.slice aly r.cmd.legs.length cly) r.cmd.legs.length (cellsL legE r.cmd.legs) :: rowC 58 2 (.slice aty r.cmd.taxes.length cty) r.cmd.taxes.length (cellsL taxE r.cmd.taxes) :: rowC 5 1 (.slice a3 ((putB r).length) c3) (putB r).length ((putB r).map (.int .u8)) :: rowC 5 1 (.slice a4 ((putB r).length) c4) (putB r).length ((putB r).map (.int .u8)) :: boxE (some 5) g cur :: boxC b6_1 (recCells r (.slice alx r.cmd.legs.length clx) (.slice atx r.cmd.taxes.length ctx)) :: rowC 36 3 (.slice alx r.cmd.legs.length clx) r.cmd.legs.length (cellsL legE r.cmd.legs) :: rowC 58 2 (.slice atx r.cmd.taxes.length ctx) r.cmd.taxes.length (cellsL taxE r.cmd.taxes) :: boxC b1_0 (recCells r (.slice al r.cmd.legs.length cl) (.slice at1 r.cmd.taxes.length ct)) :: D :: R] k []) w) (fun _ => (0, undef)) [] [0, 0, 0, 0, 0, 0, 0] (fun _ _ => false) hz17 (by kernel_rfl) (by kernel_rfl) (by kernel_rfl) ?_ (show Mem _ _ from hM17) ?_ ?_
                     · exact ⟨fun _ _ _ => rfl, fun _ _ _ => rfl, fun _ _ _ => rfl, fun _ _ _ => rfl, fun _ _ _ => rfl, fun _ _ _ => rfl, fun _ _ _ => rfl, trivial⟩
                     ·
                      refine ⟨?_, ?_, ?_, ?_, ?_, ?_, ?_, trivial⟩
                      · exact op2 (a := 0) rfl fun e w ρ (hM : Mem _ w) E => res_ok (x_loads rfl (E.o 13 _ rfl g13_17) (by kernel_rfl) (load_part (hM.box 0 rfl) [.int .u8 r.kind, .int .u8 r.cmd.kind, .int .u8 r.cmd.tick.c, .int .u64 r.cmd.tick.r, .int .u8 r.cmd.at_, .string r.cmd.name, .slice aly r.cmd.legs.length cly, .int .i64 r.cmd.fare, .slice aty r.cmd.taxes.length cty, .int .i64 r.cmd.penalty, .int .i64 r.cmd.amount, .int .u8 r.frm, .int .u64 r.number, .int .u8 r.msg.kind, .int .u8 r.msg.tick.c, .int .u64 r.msg.tick.r, .int .u8 r.msg.at_, .int .u8 r.msg.leg.c, .int .u16 r.msg.leg.f, .int .u32 r.msg.leg.x, .int .i64 r.msg.value, .int .u8 r.msg.status, .int .u32 r.msg.nonce, .int .i64 r.msg.amount, .int .i64 r.msg.code] rfl (Nat.le_of_ble_eq_true rfl) rfl)) (goes_still rfl rfl hM)
                      · exact op2 (a := 0) rfl fun e w ρ (hM : Mem _ w) E => res_ok (x_loads rfl (E.o 1 _ rfl g1_17) (by kernel_rfl) (load_part (hM.box 9 rfl) [.int .u8 r.kind, .int .u8 r.cmd.kind, .int .u8 r.cmd.tick.c, .int .u64 r.cmd.tick.r, .int .u8 r.cmd.at_, .string r.cmd.name, .slice al r.cmd.legs.length cl, .int .i64 r.cmd.fare, .slice at1 r.cmd.taxes.length ct, .int .i64 r.cmd.penalty, .int .i64 r.cmd.amount, .int .u8 r.frm, .int .u64 r.number, .int .u8 r.msg.kind, .int .u8 r.msg.tick.c, .int .u64 r.msg.tick.r, .int .u8 r.msg.at_, .int .u8 r.msg.leg.c, .int .u16 r.msg.leg.f, .int .u32 r.msg.leg.x, .int .i64 r.msg.value, .int .u8 r.msg.status, .int .u32 r.msg.nonce, .int .i64 r.msg.amount, .int .i64 r.msg.code] rfl (Nat.le_of_ble_eq_true rfl) rfl)) (goes_still rfl rfl hM)
                      ·
                       refine op2 (a := 0) rfl fun e w ρ (hM : Mem _ w) E => ?_
                       have e90 : ρ (.tmp 90) = .agg (recCells r (.slice aly r.cmd.legs.length cly) (.slice aty r.cmd.taxes.length cty)) := E.d 0 _ 90 rfl rfl rfl
                       have e91 : ρ (.tmp 91) = .agg (recCells r (.slice al r.cmd.legs.length cl) (.slice at1 r.cmd.taxes.length ct)) := E.d 1 _ 91 rfl rfl rfl
                       refine res_in (x_call (args := #[.agg (recCells r (.slice aly r.cmd.legs.length cly) (.slice aty r.cmd.taxes.length cty)), .agg (recCells r (.slice al r.cmd.legs.length cl) (.slice at1 r.cmd.taxes.length ct))]) rfl rfl (E.f _) (by simp [e90, e91]) (by kernel_rfl)) ?_
                       refine (rsame_at r r aly aty al at1 cly cty cl ct _ _ hM (Reads.own 1 rfl) (Reads.own 2 rfl) ⟨hw.legs, hw.taxes⟩ (rdM rl 10 rfl) (rdM rt 10 rfl) ⟨hw.legs, hw.taxes⟩).mono ?_
                       rintro e' w' ⟨he, hm⟩
                       rw [sameW_self] at he
                       subst he
                       exact ⟨_, rfl, goes_still rfl rfl (hm)⟩
                      · exact op2 (a := 0) rfl fun e w ρ (hM : Mem _ w) E => res_ok (x_move rfl (E.d 2 _ 92 rfl rfl rfl)) (goes_still rfl rfl hM)
                      ·
                       refine op1 (a := 0) rfl fun e w ρ (hM : Mem _ w) E => ?_
                       refine (if_pos rfl).mpr ?_
                       refine res_in (x_call (args := #[]) rfl rfl (E.f _) (by simp) (by kernel_rfl)) ?_
                       refine (puts_at _ _ hM).mono ?_
                       rintro e' w' ⟨rfl, hm⟩
                       exact ⟨_, rfl, goes_still rfl rfl (hm)⟩
                      ·
                       refine op2 (a := 0) rfl fun e w ρ (hM : Mem _ w) E => ?_
                       have e93 : ρ (.tmp 93) = .bool true := E.d 3 _ 93 rfl rfl rfl
                       have e94 : ρ (.tmp 94) = .bool true := E.d 4 _ 94 rfl rfl rfl
                       exact res_ok (x_pick rfl (e93) (e94)) (goes_still rfl rfl hM)
                      · exact op2 (a := 0) rfl fun e w ρ (hM : Mem _ w) E => res_ok (x_assign rfl (E.d 5 _ 95 rfl rfl rfl)) (goes_still rfl rfl hM)
                     ·
                      intro e a18 w18 hz18 hd hG hO hM
                      have hd18 := hd.trans hd17
                      have g2_18 : a18.tmps[2]? = some (.bool true) := hG 6 _ 2 rfl rfl
                      have hM18 : Mem (boxC b17_1 (recCells r (.slice aly r.cmd.legs.length cly) (.slice aty r.cmd.taxes.length cty)) :: rowC 36 3 (.slice aly r.cmd.legs.length cly) r.cmd.legs.length (cellsL legE r.cmd.legs) :: rowC 58 2 (.slice aty r.cmd.taxes.length cty) r.cmd.taxes.length (cellsL taxE r.cmd.taxes) :: rowC 5 1 (.slice a3 ((putB r).length) c3) (putB r).length ((putB r).map (.int .u8)) :: rowC 5 1 (.slice a4 ((putB r).length) c4) (putB r).length ((putB r).map (.int .u8)) :: boxE (some 5) g cur :: boxC b6_1 (recCells r (.slice alx r.cmd.legs.length clx) (.slice atx r.cmd.taxes.length ctx)) :: rowC 36 3 (.slice alx r.cmd.legs.length clx) r.cmd.legs.length (cellsL legE r.cmd.legs) :: rowC 58 2 (.slice atx r.cmd.taxes.length ctx) r.cmd.taxes.length (cellsL taxE r.cmd.taxes) :: boxC b1_0 (recCells r (.slice al r.cmd.legs.length cl) (.slice at1 r.cmd.taxes.length ct)) :: D :: R) w18 := hM
                      clear hM hG hO hd
                      clear hz17 hd17 hM17 g1_17 g2_17 g13_17
                      refine then_n ?_
                      refine wp_ret ?_
                      refine ret_1 Try.results7 hd18 g2_18 ?_
                      exact ⟨rfl, (((((((((((hM18.erase 9 rfl).erase 8 rfl).erase 7 rfl).erase 6 rfl).erase 5 rfl).erase 4 rfl).erase 3 rfl).erase 2 rfl).erase 1 rfl).erase 0 rfl).front 0 rfl)⟩
               ·
                obtain ⟨gl, capl, cl0, hgv, hMb, hncapl, hcapml, hcszl, htk⟩ := row_box (hM13.front 3 rfl) hln
                injection hgv with hva hvb hvc
                subst hva
                obtain rfl : capl = clx := hvc.symm
                have hcl := cells_leg rfl htk
                replace hM13 : Mem (boxE (some 36) gl cl0 :: rowC 5 1 (.slice a4 ((putB r).length) c4) (putB r).length ((putB r).map (.int .u8)) :: boxE (some 5) g cur :: boxC b6_1 (recCells r (.slice (some ⟨gl, 0, none⟩) r.cmd.legs.length capl) (.slice atx r.cmd.taxes.length ctx)) :: rowC 58 2 (.slice atx r.cmd.taxes.length ctx) r.cmd.taxes.length (cellsL taxE r.cmd.taxes) :: rowC 5 1 (.slice a3 ((putB r).length) c3) (putB r).length ((putB r).map (.int .u8)) :: boxC b1_0 (recCells r (.slice al r.cmd.legs.length cl) (.slice at1 r.cmd.taxes.length ct)) :: D :: R) w13 := hMb
                refine region_seq 96 (fun zz e => (#[.int .i64 0] : Array Value).getD zz undef) (fun k e w => Mem (List.getD [boxE (some 36) gl cl0 :: rowC 5 1 (.slice a4 ((putB r).length) c4) (putB r).length ((putB r).map (.int .u8)) :: boxE (some 5) g cur :: boxC b6_1 (recCells r (.slice (some ⟨gl, 0, none⟩) r.cmd.legs.length capl) (.slice atx r.cmd.taxes.length ctx)) :: rowC 58 2 (.slice atx r.cmd.taxes.length ctx) r.cmd.taxes.length (cellsL taxE r.cmd.taxes) :: rowC 5 1 (.slice a3 ((putB r).length) c3) (putB r).length ((putB r).map (.int .u8)) :: boxC b1_0 (recCells r (.slice al r.cmd.legs.length cl) (.slice at1 r.cmd.taxes.length ct)) :: D :: R] k []) w) (fun _ => (0, undef)) [] [0] (fun _ _ => false) hz13 (by kernel_rfl) (by kernel_rfl) (by kernel_rfl) ?_ (show Mem _ _ from hM13) ?_ ?_
                · exact ⟨fun _ _ _ => rfl, trivial⟩
                ·
                 refine ⟨?_, trivial⟩
                 · exact op2 (a := 0) rfl fun e w ρ (hM : Mem _ w) E => res_ok (x_assign rfl (E.c _)) (goes_still rfl rfl hM)
                ·
                 intro e a19 w19 hz19 hd hG hO hM
                 have hd19 := hd.trans hd13
                 have g1_19 := (hO 1 rfl).trans g1_13
                 have g2_19 := (hO 2 rfl).trans g2_13
                 have g5_19 := (hO 5 rfl).trans g5_13
                 have g7_19 := (hO 7 rfl).trans g7_13
                 have g12_19 : a19.tmps[12]? = some (.int .i64 0) := hG 0 _ 12 rfl rfl
                 have hM19 : Mem (boxE (some 36) gl cl0 :: rowC 5 1 (.slice a4 ((putB r).length) c4) (putB r).length ((putB r).map (.int .u8)) :: boxE (some 5) g cur :: boxC b6_1 (recCells r (.slice (some ⟨gl, 0, none⟩) r.cmd.legs.length capl) (.slice atx r.cmd.taxes.length ctx)) :: rowC 58 2 (.slice atx r.cmd.taxes.length ctx) r.cmd.taxes.length (cellsL taxE r.cmd.taxes) :: rowC 5 1 (.slice a3 ((putB r).length) c3) (putB r).length ((putB r).map (.int .u8)) :: boxC b1_0 (recCells r (.slice al r.cmd.legs.length cl) (.slice at1 r.cmd.taxes.length ct)) :: D :: R) w19 := hM
                 clear hM hG hO hd
                 clear hz13 hd13 hM13 g1_13 g2_13 g5_13 g7_13 g64_13
                 refine then_n ?_
                 refine wp_block ?_
                 refine loopx (X := Nat × Array Value) (fun xx aa ww => (fun (i : Nat) (cul : Array Value) => aa.tmps.size = 96 ∧ aa.defers = [] ∧ aa.tmps[1]? = some (.pointer (some ⟨b1_0, 0, none⟩)) ∧ aa.tmps[2]? = some (.bool false) ∧ aa.tmps[5]? = some (.slice a3 ((putB r).length) c3) ∧ aa.tmps[7]? = some (.pointer (some ⟨b6_1, 0, none⟩)) ∧ aa.tmps[12]? = some (.int .i64 (i : Int)) ∧ Mem (boxE (some 36) gl cul :: rowC 5 1 (.slice a4 ((putB r).length) c4) (putB r).length ((putB r).map (.int .u8)) :: boxE (some 5) g cur :: boxC b6_1 (recCells r (.slice (some ⟨gl, 0, none⟩) r.cmd.legs.length capl) (.slice atx r.cmd.taxes.length ctx)) :: rowC 58 2 (.slice atx r.cmd.taxes.length ctx) r.cmd.taxes.length (cellsL taxE r.cmd.taxes) :: rowC 5 1 (.slice a3 ((putB r).length) c3) (putB r).length ((putB r).map (.int .u8)) :: boxC b1_0 (recCells r (.slice al r.cmd.legs.length cl) (.slice at1 r.cmd.taxes.length ct)) :: D :: R) ww ∧ i ≤ r.cmd.legs.length ∧ cul.size = capl * 3 ∧ (∀ j x, i ≤ j → r.cmd.legs[j]? = some x → cul[j * 3]? = some (.int .u8 x.c))) xx.1 xx.2) (fun xx => (fun (i : Nat) (cul : Array Value) => r.cmd.legs.length - i) xx.1 xx.2) ((0, cl0)) ?_ ?_
                 ·
                  exact ⟨hz19, hd19, g1_19, g2_19, g5_19, g7_19, (by have h := g12_19; exact h.trans (by congr 2 <;> first | rfl | omega)), (hM19), (Nat.zero_le _), (hcszl), (fun j x _ hx => hcl j x hx)⟩
                 ·
                  clear hz19 hd19 hM19 g1_19 g2_19 g5_19 g7_19 g12_19
                  rintro ⟨i, cul⟩ a20 w20 hI
                  dsimp only at hI ⊢
                  obtain ⟨hz20, hd20, g1_20, g2_20, g5_20, g7_20, g12_20, hM20, hi0, hcs, hrest⟩ := hI
                  refine wp_seq ?_
                  refine wp_seq ?_
                  refine region_seq 96 (fun zz e => (#[.int .i64 (i : Int), .pointer (some ⟨b6_1, 1, none⟩), .pointer (some ⟨b6_1, 5, none⟩), .pointer (some ⟨b6_1, 6, none⟩), .slice (some ⟨gl, 0, none⟩) r.cmd.legs.length capl, .int .i64 (r.cmd.legs.length : Int), .bool (decide ((i : Int) < (r.cmd.legs.length : Int)))] : Array Value).getD zz undef) (fun k e w => Mem (List.getD [boxE (some 36) gl cul :: rowC 5 1 (.slice a4 ((putB r).length) c4) (putB r).length ((putB r).map (.int .u8)) :: boxE (some 5) g cur :: boxC b6_1 (recCells r (.slice (some ⟨gl, 0, none⟩) r.cmd.legs.length capl) (.slice atx r.cmd.taxes.length ctx)) :: rowC 58 2 (.slice atx r.cmd.taxes.length ctx) r.cmd.taxes.length (cellsL taxE r.cmd.taxes) :: rowC 5 1 (.slice a3 ((putB r).length) c3) (putB r).length ((putB r).map (.int .u8)) :: boxC b1_0 (recCells r (.slice al r.cmd.legs.length cl) (.slice at1 r.cmd.taxes.length ct)) :: D :: R] k []) w) (fun _ => (0, undef)) [] [0, 0, 0, 0, 0, 0, 0] (fun _ _ => false) hz20 (by kernel_rfl) (by kernel_rfl) (by kernel_rfl) ?_ (show Mem _ _ from hM20) ?_ ?_
                  · exact ⟨fun _ _ _ => rfl, fun _ _ _ => rfl, fun _ _ _ => rfl, fun _ _ _ => rfl, fun _ _ _ => rfl, fun _ _ _ => rfl, fun _ _ _ => rfl, trivial⟩
                  ·
                   refine ⟨?_, ?_, ?_, ?_, ?_, ?_, ?_, trivial⟩
                   · exact op2 (a := 0) rfl fun e w ρ (hM : Mem _ w) E => res_ok (x_move rfl (E.o 12 _ rfl g12_20)) (goes_still rfl rfl hM)
                   · exact op2 (a := 0) rfl fun e w ρ (hM : Mem _ w) E => res_ok (x_fieldAddr (off := 1) rfl (E.o 7 _ rfl g7_20) (by kernel_rfl) rfl) (goes_still rfl rfl hM)
                   · exact op2 (a := 0) rfl fun e w ρ (hM : Mem _ w) E => res_ok (x_fieldAddr (off := 4) rfl (E.d 1 _ 66 rfl rfl rfl) (by kernel_rfl) rfl) (goes_still rfl rfl hM)
                   · exact op2 (a := 0) rfl fun e w ρ (hM : Mem _ w) E => res_ok (x_fieldAddr (off := 1) rfl (E.d 2 _ 67 rfl rfl rfl) (by kernel_rfl) rfl) (goes_still rfl rfl hM)
                   · exact op2 (a := 0) rfl fun e w ρ (hM : Mem _ w) E => res_ok (x_load rfl (E.d 3 _ 68 rfl rfl rfl) (by kernel_rfl) ((hM.box 3 rfl).cell 6 rfl)) (goes_still rfl rfl hM)
                   ·
                    refine op2 (a := 0) rfl fun e w ρ (hM : Mem _ w) E => ?_
                    have e69 : ρ (.tmp 69) = .slice (some ⟨gl, 0, none⟩) r.cmd.legs.length capl := E.d 4 _ 69 rfl rfl rfl
                    exact res_ok (x_len (n := 3) rfl rfl rfl rfl (e69) (by kernel_rfl)) (goes_still rfl rfl hM)
                   · exact op2 (a := 0) rfl fun e w ρ (hM : Mem _ w) E => res_ok (x_lss rfl (E.d 0 _ 65 rfl rfl rfl) (E.d 5 _ 70 rfl rfl rfl) rfl) (goes_still rfl rfl hM)
                  ·
                   intro e a21 w21 hz21 hd hG hO hM
                   have hd21 := hd.trans hd20
                   have g1_21 := (hO 1 rfl).trans g1_20
                   have g2_21 := (hO 2 rfl).trans g2_20
                   have g5_21 := (hO 5 rfl).trans g5_20
                   have g7_21 := (hO 7 rfl).trans g7_20
                   have g12_21 := (hO 12 rfl).trans g12_20
                   have g65_21 : a21.tmps[65]? = some (.int .i64 (i : Int)) := hG 0 _ 65 rfl rfl
                   have g66_21 : a21.tmps[66]? = some (.pointer (some ⟨b6_1, 1, none⟩)) := hG 1 _ 66 rfl rfl
                   have g67_21 : a21.tmps[67]? = some (.pointer (some ⟨b6_1, 5, none⟩)) := hG 2 _ 67 rfl rfl
                   have g68_21 : a21.tmps[68]? = some (.pointer (some ⟨b6_1, 6, none⟩)) := hG 3 _ 68 rfl rfl
                   have g69_21 : a21.tmps[69]? = some (.slice (some ⟨gl, 0, none⟩) r.cmd.legs.length capl) := hG 4 _ 69 rfl rfl
                   have g70_21 : a21.tmps[70]? = some (.int .i64 (r.cmd.legs.length : Int)) := hG 5 _ 70 rfl rfl
                   have g71_21 : a21.tmps[71]? = some (.bool (decide ((i : Int) < (r.cmd.legs.length : Int)))) := hG 6 _ 71 rfl rfl
                   have hM21 : Mem (boxE (some 36) gl cul :: rowC 5 1 (.slice a4 ((putB r).length) c4) (putB r).length ((putB r).map (.int .u8)) :: boxE (some 5) g cur :: boxC b6_1 (recCells r (.slice (some ⟨gl, 0, none⟩) r.cmd.legs.length capl) (.slice atx r.cmd.taxes.length ctx)) :: rowC 58 2 (.slice atx r.cmd.taxes.length ctx) r.cmd.taxes.length (cellsL taxE r.cmd.taxes) :: rowC 5 1 (.slice a3 ((putB r).length) c3) (putB r).length ((putB r).map (.int .u8)) :: boxC b1_0 (recCells r (.slice al r.cmd.legs.length cl) (.slice at1 r.cmd.taxes.length ct)) :: D :: R) w21 := hM
                   clear hM hG hO hd
                   clear hz20 hd20 hM20 g1_20 g2_20 g5_20 g7_20 g12_20
                   refine then_n ?_
                   by_cases hjc : (i : Int) < (r.cmd.legs.length : Int)
                   ·
                    refine cond_t (g71_21.trans (by rw [decide_eq_true hjc])) ?_
                    obtain ⟨x, hx⟩ := list_at (show i < r.cmd.legs.length by omega)
                    have hcx : cul[0 + i * 3]? = some (.int .u8 x.c) := by rw [Nat.zero_add]; exact hrest i x (Nat.le_refl _) hx
                    refine wp_skip ?_
                    refine then_n ?_
                    refine wp_seq ?_
                    refine wp_block ?_
                    refine region_seq 96 (fun zz e => (#[.pointer (some ⟨b6_1, 1, none⟩), .pointer (some ⟨b6_1, 5, none⟩), .pointer (some ⟨b6_1, 6, none⟩), .slice (some ⟨gl, 0, none⟩) r.cmd.legs.length capl, .int .i64 (i : Int), .pointer (some ⟨gl, 0 + i * 3, none⟩), .pointer (some ⟨gl, 0 + i * 3, none⟩), .int .u8 x.c, .int .u8 (IntKind.u8.wrap (x.c + 1)), .pointer (some ⟨gl, 0 + i * 3, none⟩), .pointer (some ⟨gl, 0 + i * 3, none⟩), undef] : Array Value).getD zz undef) (fun k e w => Mem (List.getD [boxE (some 36) gl cul :: rowC 5 1 (.slice a4 ((putB r).length) c4) (putB r).length ((putB r).map (.int .u8)) :: boxE (some 5) g cur :: boxC b6_1 (recCells r (.slice (some ⟨gl, 0, none⟩) r.cmd.legs.length capl) (.slice atx r.cmd.taxes.length ctx)) :: rowC 58 2 (.slice atx r.cmd.taxes.length ctx) r.cmd.taxes.length (cellsL taxE r.cmd.taxes) :: rowC 5 1 (.slice a3 ((putB r).length) c3) (putB r).length ((putB r).map (.int .u8)) :: boxC b1_0 (recCells r (.slice al r.cmd.legs.length cl) (.slice at1 r.cmd.taxes.length ct)) :: D :: R, boxE (some 36) gl (over cul (0 + i * 3) [.int .u8 (IntKind.u8.wrap (x.c + 1))]) :: rowC 5 1 (.slice a4 ((putB r).length) c4) (putB r).length ((putB r).map (.int .u8)) :: boxE (some 5) g cur :: boxC b6_1 (recCells r (.slice (some ⟨gl, 0, none⟩) r.cmd.legs.length capl) (.slice atx r.cmd.taxes.length ctx)) :: rowC 58 2 (.slice atx r.cmd.taxes.length ctx) r.cmd.taxes.length (cellsL taxE r.cmd.taxes) :: rowC 5 1 (.slice a3 ((putB r).length) c3) (putB r).length ((putB r).map (.int .u8)) :: boxC b1_0 (recCells r (.slice al r.cmd.legs.length cl) (.slice at1 r.cmd.taxes.length ct)) :: D :: R] k []) w) (fun _ => (0, undef)) [11] [0, 0, 0, 0, 0, 0, 0, 0, 0, 0, 0, 0] (fun _ _ => false) hz21 (by kernel_rfl) (by kernel_rfl) (by kernel_rfl) ?_ (show Mem _ _ from hM21) ?_ ?_
                    · exact ⟨fun _ _ _ => rfl, fun _ _ _ => rfl, fun _ _ _ => rfl, fun _ _ _ => rfl, fun _ _ _ => rfl, fun _ _ _ => rfl, fun _ _ _ => rfl, fun _ _ _ => rfl, fun _ _ _ => rfl, fun _ _ _ => rfl, fun _ _ _ => rfl, fun _ _ _ => rfl, trivial⟩
                    ·
                     refine ⟨?_, ?_, ?_, ?_, ?_, ?_, ?_, ?_, ?_, ?_, ?_, ?_, trivial⟩
                     · exact op2 (a := 0) rfl fun e w ρ (hM : Mem _ w) E => res_ok (x_fieldAddr (off := 1) rfl (E.o 7 _ rfl g7_21) (by kernel_rfl) rfl) (goes_still rfl rfl hM)
                     · exact op2 (a := 0) rfl fun e w ρ (hM : Mem _ w) E => res_ok (x_fieldAddr (off := 4) rfl (E.d 0 _ 74 rfl rfl rfl) (by kernel_rfl) rfl) (goes_still rfl rfl hM)
                     · exact op2 (a := 0) rfl fun e w ρ (hM : Mem _ w) E => res_ok (x_fieldAddr (off := 1) rfl (E.d 1 _ 75 rfl rfl rfl) (by kernel_rfl) rfl) (goes_still rfl rfl hM)
                     · exact op2 (a := 0) rfl fun e w ρ (hM : Mem _ w) E => res_ok (x_load rfl (E.d 2 _ 76 rfl rfl rfl) (by kernel_rfl) ((hM.box 3 rfl).cell 6 rfl)) (goes_still rfl rfl hM)
                     · exact op2 (a := 0) rfl fun e w ρ (hM : Mem _ w) E => res_ok (x_move rfl (E.o 12 _ rfl g12_21)) (goes_still rfl rfl hM)
                     ·
                      refine op2 (a := 0) rfl fun e w ρ (hM : Mem _ w) E => ?_
                      have e77 : ρ (.tmp 77) = .slice (some ⟨gl, 0, none⟩) r.cmd.legs.length capl := E.d 3 _ 77 rfl rfl rfl
                      have e78 : ρ (.tmp 78) = .int .i64 (i : Int) := E.d 4 _ 78 rfl rfl rfl
                      exact res_ok (x_idx (n := 3) (i := i) rfl (e77) (e78) (by kernel_rfl) (by omega) rfl) (goes_still rfl rfl hM)
                     · exact op2 (a := 0) rfl fun e w ρ (hM : Mem _ w) E => res_ok (x_fieldAddr (off := 0) rfl (E.d 5 _ 79 rfl rfl rfl) (by kernel_rfl) rfl) (goes_still rfl rfl hM)
                     ·
                      refine op2 (a := 0) rfl fun e w ρ (hM : Mem _ w) E => ?_
                      have e80 : ρ (.tmp 80) = .pointer (some ⟨gl, 0 + i * 3, none⟩) := E.d 6 _ 80 rfl rfl rfl
                      exact res_ok (x_load rfl (e80) (by kernel_rfl) ((hM.box 0 rfl).cell _ hcx)) (goes_still rfl rfl hM)
                     · exact op2 (a := 0) rfl fun e w ρ (hM : Mem _ w) E => res_ok (x_add rfl (E.d 7 _ 81 rfl rfl rfl) (E.c _) (rfl)) (goes_still rfl rfl hM)
                     ·
                      refine op2 (a := 0) rfl fun e w ρ (hM : Mem _ w) E => ?_
                      have e77 : ρ (.tmp 77) = .slice (some ⟨gl, 0, none⟩) r.cmd.legs.length capl := E.d 3 _ 77 rfl rfl rfl
                      have e78 : ρ (.tmp 78) = .int .i64 (i : Int) := E.d 4 _ 78 rfl rfl rfl
                      exact res_ok (x_idx (n := 3) (i := i) rfl (e77) (e78) (by kernel_rfl) (by omega) rfl) (goes_still rfl rfl hM)
                     · exact op2 (a := 0) rfl fun e w ρ (hM : Mem _ w) E => res_ok (x_fieldAddr (off := 0) rfl (E.d 9 _ 83 rfl rfl rfl) (by kernel_rfl) rfl) (goes_still rfl rfl hM)
                     ·
                      refine op2 (a := 0) rfl fun e w ρ (hM : Mem _ w) E => ?_
                      have e82 : ρ (.tmp 82) = .int .u8 (IntKind.u8.wrap (x.c + 1)) := E.d 8 _ 82 rfl rfl rfl
                      have e84 : ρ (.tmp 84) = .pointer (some ⟨gl, 0 + i * 3, none⟩) := E.d 10 _ 84 rfl rfl rfl
                      obtain ⟨w', hr, hm⟩ := Mem.store (P := Try.prog) hM 0 rfl 5 ((0 + i * 3)) (.int .u8 (IntKind.u8.wrap (x.c + 1))) [.int .u8 (IntKind.u8.wrap (x.c + 1))] rfl (by kernel_rfl) (by simp; omega) rfl
                      exact res_st (x_store rfl (e84) (e82) hr) (goes_tick rfl (0, undef) rfl hm)
                    ·
                     intro e a22 w22 hz22 hd hG hO hM
                     have hd22 := hd.trans hd21
                     have g1_22 := (hO 1 rfl).trans g1_21
                     have g2_22 := (hO 2 rfl).trans g2_21
                     have g5_22 := (hO 5 rfl).trans g5_21
                     have g7_22 := (hO 7 rfl).trans g7_21
                     have g12_22 := (hO 12 rfl).trans g12_21
                     have g65_22 := (hO 65 rfl).trans g65_21
                     have g66_22 := (hO 66 rfl).trans g66_21
                     have g67_22 := (hO 67 rfl).trans g67_21
                     have g68_22 := (hO 68 rfl).trans g68_21
                     have g69_22 := (hO 69 rfl).trans g69_21
                     have g70_22 := (hO 70 rfl).trans g70_21
                     have g71_22 := (hO 71 rfl).trans g71_21
                     have g74_22 : a22.tmps[74]? = some (.pointer (some ⟨b6_1, 1, none⟩)) := hG 0 _ 74 rfl rfl
                     have g75_22 : a22.tmps[75]? = some (.pointer (some ⟨b6_1, 5, none⟩)) := hG 1 _ 75 rfl rfl
                     have g76_22 : a22.tmps[76]? = some (.pointer (some ⟨b6_1, 6, none⟩)) := hG 2 _ 76 rfl rfl
                     have g77_22 : a22.tmps[77]? = some (.slice (some ⟨gl, 0, none⟩) r.cmd.legs.length capl) := hG 3 _ 77 rfl rfl
                     have g78_22 : a22.tmps[78]? = some (.int .i64 (i : Int)) := hG 4 _ 78 rfl rfl
                     have g79_22 : a22.tmps[79]? = some (.pointer (some ⟨gl, 0 + i * 3, none⟩)) := hG 5 _ 79 rfl rfl
                     have g80_22 : a22.tmps[80]? = some (.pointer (some ⟨gl, 0 + i * 3, none⟩)) := hG 6 _ 80 rfl rfl
                     have g81_22 : a22.tmps[81]? = some (.int .u8 x.c) := hG 7 _ 81 rfl rfl
                     have g82_22 : a22.tmps[82]? = some (.int .u8 (IntKind.u8.wrap (x.c + 1))) := hG 8 _ 82 rfl rfl
                     have g83_22 : a22.tmps[83]? = some (.pointer (some ⟨gl, 0 + i * 3, none⟩)) := hG 9 _ 83 rfl rfl
                     have g84_22 : a22.tmps[84]? = some (.pointer (some ⟨gl, 0 + i * 3, none⟩)) := hG 10 _ 84 rfl rfl
                     have hM22 : Mem (boxE (some 36) gl (over cul (0 + i * 3) [.int .u8 (IntKind.u8.wrap (x.c + 1))]) :: rowC 5 1 (.slice a4 ((putB r).length) c4) (putB r).length ((putB r).map (.int .u8)) :: boxE (some 5) g cur :: boxC b6_1 (recCells r (.slice (some ⟨gl, 0, none⟩) r.cmd.legs.length capl) (.slice atx r.cmd.taxes.length ctx)) :: rowC 58 2 (.slice atx r.cmd.taxes.length ctx) r.cmd.taxes.length (cellsL taxE r.cmd.taxes) :: rowC 5 1 (.slice a3 ((putB r).length) c3) (putB r).length ((putB r).map (.int .u8)) :: boxC b1_0 (recCells r (.slice al r.cmd.legs.length cl) (.slice at1 r.cmd.taxes.length ct)) :: D :: R) w22 := hM
                     clear hM hG hO hd
                     clear hz21 hd21 hM21 g1_21 g2_21 g5_21 g7_21 g12_21 g65_21 g66_21 g67_21 g68_21 g69_21 g70_21 g71_21
                     refine blk_n ?_
                     refine then_n ?_
                     refine region_seq 96 (fun zz e => (#[.int .i64 (i : Int), .int .i64 ((i + 1 : Nat) : Int), .int .i64 ((i + 1 : Nat) : Int)] : Array Value).getD zz undef) (fun k e w => Mem (List.getD [boxE (some 36) gl (over cul (0 + i * 3) [.int .u8 (IntKind.u8.wrap (x.c + 1))]) :: rowC 5 1 (.slice a4 ((putB r).length) c4) (putB r).length ((putB r).map (.int .u8)) :: boxE (some 5) g cur :: boxC b6_1 (recCells r (.slice (some ⟨gl, 0, none⟩) r.cmd.legs.length capl) (.slice atx r.cmd.taxes.length ctx)) :: rowC 58 2 (.slice atx r.cmd.taxes.length ctx) r.cmd.taxes.length (cellsL taxE r.cmd.taxes) :: rowC 5 1 (.slice a3 ((putB r).length) c3) (putB r).length ((putB r).map (.int .u8)) :: boxC b1_0 (recCells r (.slice al r.cmd.legs.length cl) (.slice at1 r.cmd.taxes.length ct)) :: D :: R] k []) w) (fun _ => (0, undef)) [] [0, 0, 0] (fun i t => (i == 0 && t == 12)) hz22 (by kernel_rfl) (by kernel_rfl) (by kernel_rfl) ?_ (show Mem _ _ from hM22) ?_ ?_
                     · exact ⟨fun _ _ _ => rfl, fun _ _ _ => rfl, fun _ _ _ => rfl, trivial⟩
                     ·
                      refine ⟨?_, ?_, ?_, trivial⟩
                      · exact op2 (a := 0) rfl fun e w ρ (hM : Mem _ w) E => res_ok (x_move rfl (E.o 12 _ rfl g12_22)) (goes_still rfl rfl hM)
                      · exact op2 (a := 0) rfl fun e w ρ (hM : Mem _ w) E => res_ok (x_add rfl (E.d 0 _ 72 rfl rfl rfl) (E.c _) ((wr_i64 (by omega)).trans (by omega))) (goes_still rfl rfl hM)
                      · exact op2 (a := 0) rfl fun e w ρ (hM : Mem _ w) E => res_ok (x_assign rfl (E.d 1 _ 73 rfl rfl rfl)) (goes_still rfl rfl hM)
                     ·
                      intro e a23 w23 hz23 hd hG hO hM
                      have hd23 := hd.trans hd22
                      have g1_23 := (hO 1 rfl).trans g1_22
                      have g2_23 := (hO 2 rfl).trans g2_22
                      have g5_23 := (hO 5 rfl).trans g5_22
                      have g7_23 := (hO 7 rfl).trans g7_22
                      have g12_23 : a23.tmps[12]? = some (.int .i64 ((i + 1 : Nat) : Int)) := hG 2 _ 12 rfl rfl
                      have g65_23 := (hO 65 rfl).trans g65_22
                      have g66_23 := (hO 66 rfl).trans g66_22
                      have g67_23 := (hO 67 rfl).trans g67_22
                      have g68_23 := (hO 68 rfl).trans g68_22
                      have g69_23 := (hO 69 rfl).trans g69_22
                      have g70_23 := (hO 70 rfl).trans g70_22
                      have g71_23 := (hO 71 rfl).trans g71_22
                      have g72_23 : a23.tmps[72]? = some (.int .i64 (i : Int)) := hG 0 _ 72 rfl rfl
                      have g73_23 : a23.tmps[73]? = some (.int .i64 ((i + 1 : Nat) : Int)) := hG 1 _ 73 rfl rfl
                      have g74_23 := (hO 74 rfl).trans g74_22
                      have g75_23 := (hO 75 rfl).trans g75_22
                      have g76_23 := (hO 76 rfl).trans g76_22
                      have g77_23 := (hO 77 rfl).trans g77_22
                      have g78_23 := (hO 78 rfl).trans g78_22
                      have g79_23 := (hO 79 rfl).trans g79_22
                      have g80_23 := (hO 80 rfl).trans g80_22
                      have g81_23 := (hO 81 rfl).trans g81_22
                      have g82_23 := (hO 82 rfl).trans g82_22
                      have g83_23 := (hO 83 rfl).trans g83_22
                      have g84_23 := (hO 84 rfl).trans g84_22
                      have hM23 : Mem (boxE (some 36) gl (over cul (0 + i * 3) [.int .u8 (IntKind.u8.wrap (x.c + 1))]) :: rowC 5 1 (.slice a4 ((putB r).length) c4) (putB r).length ((putB r).map (.int .u8)) :: boxE (some 5) g cur :: boxC b6_1 (recCells r (.slice (some ⟨gl, 0, none⟩) r.cmd.legs.length capl) (.slice atx r.cmd.taxes.length ctx)) :: rowC 58 2 (.slice atx r.cmd.taxes.length ctx) r.cmd.taxes.length (cellsL taxE r.cmd.taxes) :: rowC 5 1 (.slice a3 ((putB r).length) c3) (putB r).length ((putB r).map (.int .u8)) :: boxC b1_0 (recCells r (.slice al r.cmd.legs.length cl) (.slice at1 r.cmd.taxes.length ct)) :: D :: R) w23 := hM
                      clear hM hG hO hd
                      clear hz22 hd22 hM22 g1_22 g2_22 g5_22 g7_22 g12_22 g65_22 g66_22 g67_22 g68_22 g69_22 g70_22 g71_22 g74_22 g75_22 g76_22 g77_22 g78_22 g79_22 g80_22 g81_22 g82_22 g83_22 g84_22
                      refine then_n ?_
                      exact ⟨(i + 1, over cul (0 + i * 3) [.int .u8 (IntKind.u8.wrap (x.c + 1))]), by omega, ⟨hz23, hd23, g1_23, g2_23, g5_23, g7_23, (by have h := g12_23; exact h.trans (by congr 2 <;> first | rfl | omega)), (hM23), (by show i + 1 ≤ _; omega), (by show (over cul (0 + i * 3) [.int .u8 (IntKind.u8.wrap (x.c + 1))]).size = capl * 3; rw [over_size (by simp; omega)]; exact hcs), (fun j y hj hy => by show (over cul (0 + i * 3) [.int .u8 (IntKind.u8.wrap (x.c + 1))])[j * 3]? = _; rw [over_far (by omega) (by have : i + 1 ≤ j := hj; omega)]; exact hrest j y (by have : i + 1 ≤ j := hj; omega) hy)⟩⟩
                   ·
                    refine cond_f (g71_21.trans (by rw [decide_eq_false hjc])) ?_
                    refine wp_exit ?_
                    refine then_x ?_
                    refine then_x ?_
                    refine blk_x ?_
                    refine then_n ?_
                    refine wp_seq ?_
                    refine region_seq 96 (fun zz e => (#[.slice a3 ((putB r).length) c3, .tuple #[.agg (recCells r (prt (e 0).2 0) (prt (e 0).2 1)), .int .i64 0], .tuple #[.agg (recCells r (prt (e 0).2 0) (prt (e 0).2 1)), .int .i64 0], .agg (recCells r (prt (e 0).2 0) (prt (e 0).2 1)), .int .i64 0, .pointer (some ⟨(e 1).1, 0, none⟩), undef, .int .i64 0] : Array Value).getD zz undef) (fun k e w => Mem (List.getD [boxE (some 36) gl cul :: rowC 5 1 (.slice a4 ((putB r).length) c4) (putB r).length ((putB r).map (.int .u8)) :: boxE (some 5) g cur :: boxC b6_1 (recCells r (.slice (some ⟨gl, 0, none⟩) r.cmd.legs.length capl) (.slice atx r.cmd.taxes.length ctx)) :: rowC 58 2 (.slice atx r.cmd.taxes.length ctx) r.cmd.taxes.length (cellsL taxE r.cmd.taxes) :: rowC 5 1 (.slice a3 ((putB r).length) c3) (putB r).length ((putB r).map (.int .u8)) :: boxC b1_0 (recCells r (.slice al r.cmd.legs.length cl) (.slice at1 r.cmd.taxes.length ct)) :: D :: R, rowC 36 3 (prt (e 0).2 0) r.cmd.legs.length (cellsL legE r.cmd.legs) :: rowC 58 2 (prt (e 0).2 1) r.cmd.taxes.length (cellsL taxE r.cmd.taxes) :: rowC 5 1 (.slice a3 ((putB r).length) c3) (putB r).length ((putB r).map (.int .u8)) :: boxE (some 36) gl cul :: rowC 5 1 (.slice a4 ((putB r).length) c4) (putB r).length ((putB r).map (.int .u8)) :: boxE (some 5) g cur :: boxC b6_1 (recCells r (.slice (some ⟨gl, 0, none⟩) r.cmd.legs.length capl) (.slice atx r.cmd.taxes.length ctx)) :: rowC 58 2 (.slice atx r.cmd.taxes.length ctx) r.cmd.taxes.length (cellsL taxE r.cmd.taxes) :: boxC b1_0 (recCells r (.slice al r.cmd.legs.length cl) (.slice at1 r.cmd.taxes.length ct)) :: D :: R, boxC ((e 1).1) #[.int .u8 0, .int .u8 0, .int .u8 0, .int .u64 0, .int .u8 0, .string ByteArray.empty, .slice none 0 0, .int .i64 0, .slice none 0 0, .int .i64 0, .int .i64 0, .int .u8 0, .int .u64 0, .int .u8 0, .int .u8 0, .int .u64 0, .int .u8 0, .int .u8 0, .int .u16 0, .int .u32 0, .int .i64 0, .int .u8 0, .int .u32 0, .int .i64 0, .int .i64 0] :: rowC 36 3 (prt (e 0).2 0) r.cmd.legs.length (cellsL legE r.cmd.legs) :: rowC 58 2 (prt (e 0).2 1) r.cmd.taxes.length (cellsL taxE r.cmd.taxes) :: rowC 5 1 (.slice a3 ((putB r).length) c3) (putB r).length ((putB r).map (.int .u8)) :: boxE (some 36) gl cul :: rowC 5 1 (.slice a4 ((putB r).length) c4) (putB r).length ((putB r).map (.int .u8)) :: boxE (some 5) g cur :: boxC b6_1 (recCells r (.slice (some ⟨gl, 0, none⟩) r.cmd.legs.length capl) (.slice atx r.cmd.taxes.length ctx)) :: rowC 58 2 (.slice atx r.cmd.taxes.length ctx) r.cmd.taxes.length (cellsL taxE r.cmd.taxes) :: boxC b1_0 (recCells r (.slice al r.cmd.legs.length cl) (.slice at1 r.cmd.taxes.length ct)) :: D :: R, boxC ((e 1).1) (recCells r (prt (e 0).2 0) (prt (e 0).2 1)) :: rowC 36 3 (prt (e 0).2 0) r.cmd.legs.length (cellsL legE r.cmd.legs) :: rowC 58 2 (prt (e 0).2 1) r.cmd.taxes.length (cellsL taxE r.cmd.taxes) :: rowC 5 1 (.slice a3 ((putB r).length) c3) (putB r).length ((putB r).map (.int .u8)) :: boxE (some 36) gl cul :: rowC 5 1 (.slice a4 ((putB r).length) c4) (putB r).length ((putB r).map (.int .u8)) :: boxE (some 5) g cur :: boxC b6_1 (recCells r (.slice (some ⟨gl, 0, none⟩) r.cmd.legs.length capl) (.slice atx r.cmd.taxes.length ctx)) :: rowC 58 2 (.slice atx r.cmd.taxes.length ctx) r.cmd.taxes.length (cellsL taxE r.cmd.taxes) :: boxC b1_0 (recCells r (.slice al r.cmd.legs.length cl) (.slice at1 r.cmd.taxes.length ct)) :: D :: R] k []) w) (fun _ => (0, undef)) [1, 5, 6] [0, 0, 1, 1, 1, 1, 2, 3] (fun _ _ => false) hz21 (by kernel_rfl) (by kernel_rfl) (by kernel_rfl) ?_ (show Mem _ _ from hM21) ?_ ?_
                    · exact ⟨fun _ _ _ => rfl, fun e e' h => congrArg (fun x : Rv => (.tuple #[.agg (recCells r (prt x.2 0) (prt x.2 1)), .int .i64 0] : Value)) (h 0 (by decide)), fun e e' h => congrArg (fun x : Rv => (.tuple #[.agg (recCells r (prt x.2 0) (prt x.2 1)), .int .i64 0] : Value)) (h 0 (by decide)), fun e e' h => congrArg (fun x : Rv => (.agg (recCells r (prt x.2 0) (prt x.2 1)) : Value)) (h 0 (by decide)), fun _ _ _ => rfl, fun e e' h => congrArg (fun x : Rv => (.pointer (some ⟨x.1, 0, none⟩) : Value)) (h 1 (by decide)), fun _ _ _ => rfl, fun _ _ _ => rfl, trivial⟩
                    ·
                     refine ⟨?_, ?_, ?_, ?_, ?_, ?_, ?_, ?_, trivial⟩
                     · exact op2 (a := 0) rfl fun e w ρ (hM : Mem _ w) E => res_ok (x_move rfl (E.o 5 _ rfl g5_21)) (goes_still rfl rfl hM)
                     ·
                      refine op2 (a := 0) rfl fun e w ρ (hM : Mem _ w) E => ?_
                      have e86 : ρ (.tmp 86) = .slice a3 ((putB r).length) c3 := E.d 0 _ 86 rfl rfl rfl
                      refine res_in (x_call (args := #[.slice a3 ((putB r).length) c3]) rfl rfl (E.f _) (by simp [e86]) (by kernel_rfl)) ?_
                      refine (get_at a3 c3 (putB r) _ _ _ (hM.front 5 rfl) rd_row hlcB hacB (put_by hi) (Nat.le_trans (put_small hi hgr) (by decide))).mono ?_
                      rintro e' w' ⟨vl', vt', he, hm⟩
                      rw [(get_of_put hi hE).1, (get_of_put hi hE).2] at he
                      rw [(get_of_put hi hE).2] at hm
                      subst he
                      exact ⟨_, rfl, goes_tick rfl (0, .agg #[vl', vt']) rfl hm⟩
                     · exact op2 (a := 1) rfl fun e w ρ (hM : Mem _ w) E => res_ok (x_move rfl (E.d 1 _ 87 rfl rfl rfl)) (goes_still rfl rfl hM)
                     ·
                      refine op2 (a := 1) rfl fun e w ρ (hM : Mem _ w) E => ?_
                      have e85 : ρ (.tmp 85) = .tuple #[.agg (recCells r (prt (e 0).2 0) (prt (e 0).2 1)), .int .i64 0] := E.d 2 _ 85 rfl rfl rfl
                      exact res_ok (x_extract rfl (e85) rfl) (goes_still rfl rfl hM)
                     ·
                      refine op2 (a := 1) rfl fun e w ρ (hM : Mem _ w) E => ?_
                      have e85 : ρ (.tmp 85) = .tuple #[.agg (recCells r (prt (e 0).2 0) (prt (e 0).2 1)), .int .i64 0] := E.d 2 _ 85 rfl rfl rfl
                      exact res_ok (x_extract rfl (e85) rfl) (goes_still rfl rfl hM)
                     ·
                      refine op2 (a := 1) rfl fun e w ρ (hM : Mem _ w) E => ?_
                      exact res_ok (x_alloc (z := .agg #[.int .u8 0, .int .u8 0, .int .u8 0, .int .u64 0, .int .u8 0, .string ByteArray.empty, .slice none 0 0, .int .i64 0, .slice none 0 0, .int .i64 0, .int .i64 0, .int .u8 0, .int .u64 0, .int .u8 0, .int .u8 0, .int .u64 0, .int .u8 0, .int .u8 0, .int .u16 0, .int .u32 0, .int .i64 0, .int .u8 0, .int .u32 0, .int .i64 0, .int .i64 0]) rfl (by kernel_rfl)) (goes_tick rfl (w.heap.size, undef) rfl (hM.alloc _ _))
                     ·
                      refine op2 (a := 2) rfl fun e w ρ (hM : Mem _ w) E => ?_
                      have e13 := E.d 5 _ 13 rfl rfl rfl
                      have e88 := E.d 3 _ 88 rfl rfl rfl
                      have hrc0 := row_cell (hM.owns 1 rfl)
                      have hrc1 := row_cell (hM.owns 2 rfl)
                      obtain ⟨w', hr, hm⟩ := Mem.store (P := Try.prog) hM 0 rfl 44 0 (.agg (recCells r (prt (e 0).2 0) (prt (e 0).2 1))) [.int .u8 r.kind, .int .u8 r.cmd.kind, .int .u8 r.cmd.tick.c, .int .u64 r.cmd.tick.r, .int .u8 r.cmd.at_, .string r.cmd.name, (prt (e 0).2 0), .int .i64 r.cmd.fare, (prt (e 0).2 1), .int .i64 r.cmd.penalty, .int .i64 r.cmd.amount, .int .u8 r.frm, .int .u64 r.number, .int .u8 r.msg.kind, .int .u8 r.msg.tick.c, .int .u64 r.msg.tick.r, .int .u8 r.msg.at_, .int .u8 r.msg.leg.c, .int .u16 r.msg.leg.f, .int .u32 r.msg.leg.x, .int .i64 r.msg.value, .int .u8 r.msg.status, .int .u32 r.msg.nonce, .int .i64 r.msg.amount, .int .i64 r.msg.code] rfl (by kernel_rfl) (Nat.le_of_ble_eq_true rfl) (by simp only [List.all_cons, List.all_nil, Bool.and_true, hrc0.2, hrc1.2]; rfl)
                      exact res_st (x_store rfl (e13) (e88) hr) (goes_tick rfl (0, undef) rfl hm)
                     · exact op2 (a := 3) rfl fun e w ρ (hM : Mem _ w) E => res_ok (x_assign rfl (E.d 4 _ 89 rfl rfl rfl)) (goes_still rfl rfl hM)
                    ·
                     intro e a24 w24 hz24 hd hG hO hM
                     have hd24 := hd.trans hd21
                     have g1_24 := (hO 1 rfl).trans g1_21
                     have g2_24 := (hO 2 rfl).trans g2_21
                     have g13_24 : a24.tmps[13]? = some (.pointer (some ⟨(e 1).1, 0, none⟩)) := hG 5 _ 13 rfl rfl
                     have hM24 : Mem (boxC ((e 1).1) (recCells r (prt (e 0).2 0) (prt (e 0).2 1)) :: rowC 36 3 (prt (e 0).2 0) r.cmd.legs.length (cellsL legE r.cmd.legs) :: rowC 58 2 (prt (e 0).2 1) r.cmd.taxes.length (cellsL taxE r.cmd.taxes) :: rowC 5 1 (.slice a3 ((putB r).length) c3) (putB r).length ((putB r).map (.int .u8)) :: boxE (some 36) gl cul :: rowC 5 1 (.slice a4 ((putB r).length) c4) (putB r).length ((putB r).map (.int .u8)) :: boxE (some 5) g cur :: boxC b6_1 (recCells r (.slice (some ⟨gl, 0, none⟩) r.cmd.legs.length capl) (.slice atx r.cmd.taxes.length ctx)) :: rowC 58 2 (.slice atx r.cmd.taxes.length ctx) r.cmd.taxes.length (cellsL taxE r.cmd.taxes) :: boxC b1_0 (recCells r (.slice al r.cmd.legs.length cl) (.slice at1 r.cmd.taxes.length ct)) :: D :: R) w24 := hM
                     clear hM hG hO hd
                     clear hz21 hd21 hM21 g1_21 g2_21 g5_21 g7_21 g12_21 g65_21 g66_21 g67_21 g68_21 g69_21 g70_21 g71_21
                     generalize (e 1).1 = b24_1 at *
                     generalize (e 0).2 = v24_0 at *
                     generalize hgv : prt v24_0 0 = gv at *
                     obtain ⟨aly, cly, rfl, -, -⟩ := row_slice hM24 1 rfl
                     clear hgv
                     generalize hgv : prt v24_0 1 = gv at *
                     obtain ⟨aty, cty, rfl, -, -⟩ := row_slice hM24 2 rfl
                     clear hgv
                     refine then_n ?_
                     refine wp_seq ?_
                     refine region_seq 96 (fun zz e => (#[.agg (recCells r (.slice aly r.cmd.legs.length cly) (.slice aty r.cmd.taxes.length cty)), .agg (recCells r (.slice al r.cmd.legs.length cl) (.slice at1 r.cmd.taxes.length ct)), .bool true, .bool true, .bool true, .bool true, .bool true] : Array Value).getD zz undef) (fun k e w => Mem (List.getD [boxC b24_1 (recCells r (.slice aly r.cmd.legs.length cly) (.slice aty r.cmd.taxes.length cty)) :: rowC 36 3 (.slice aly r.cmd.legs.length cly) r.cmd.legs.length (cellsL legE r.cmd.legs) :: rowC 58 2 (.slice aty r.cmd.taxes.length cty) r.cmd.taxes.length (cellsL taxE r.cmd.taxes) :: rowC 5 1 (.slice a3 ((putB r).length) c3) (putB r).length ((putB r).map (.int .u8)) :: boxE (some 36) gl cul :: rowC 5 1 (.slice a4 ((putB r).length) c4) (putB r).length ((putB r).map (.int .u8)) :: boxE (some 5) g cur :: boxC b6_1 (recCells r (.slice (some ⟨gl, 0, none⟩) r.cmd.legs.length capl) (.slice atx r.cmd.taxes.length ctx)) :: rowC 58 2 (.slice atx r.cmd.taxes.length ctx) r.cmd.taxes.length (cellsL taxE r.cmd.taxes) :: boxC b1_0 (recCells r (.slice al r.cmd.legs.length cl) (.slice at1 r.cmd.taxes.length ct)) :: D :: R] k []) w) (fun _ => (0, undef)) [] [0, 0, 0, 0, 0, 0, 0] (fun _ _ => false) hz24 (by kernel_rfl) (by kernel_rfl) (by kernel_rfl) ?_ (show Mem _ _ from hM24) ?_ ?_
                     · exact ⟨fun _ _ _ => rfl, fun _ _ _ => rfl, fun _ _ _ => rfl, fun _ _ _ => rfl, fun _ _ _ => rfl, fun _ _ _ => rfl, fun _ _ _ => rfl, trivial⟩
                     ·
                      refine ⟨?_, ?_, ?_, ?_, ?_, ?_, ?_, trivial⟩
                      · exact op2 (a := 0) rfl fun e w ρ (hM : Mem _ w) E => res_ok (x_loads rfl (E.o 13 _ rfl g13_24) (by kernel_rfl) (load_part (hM.box 0 rfl) [.int .u8 r.kind, .int .u8 r.cmd.kind, .int .u8 r.cmd.tick.c, .int .u64 r.cmd.tick.r, .int .u8 r.cmd.at_, .string r.cmd.name, .slice aly r.cmd.legs.length cly, .int .i64 r.cmd.fare, .slice aty r.cmd.taxes.length cty, .int .i64 r.cmd.penalty, .int .i64 r.cmd.amount, .int .u8 r.frm, .int .u64 r.number, .int .u8 r.msg.kind, .int .u8 r.msg.tick.c, .int .u64 r.msg.tick.r, .int .u8 r.msg.at_, .int .u8 r.msg.leg.c, .int .u16 r.msg.leg.f, .int .u32 r.msg.leg.x, .int .i64 r.msg.value, .int .u8 r.msg.status, .int .u32 r.msg.nonce, .int .i64 r.msg.amount, .int .i64 r.msg.code] rfl (Nat.le_of_ble_eq_true rfl) rfl)) (goes_still rfl rfl hM)
                      · exact op2 (a := 0) rfl fun e w ρ (hM : Mem _ w) E => res_ok (x_loads rfl (E.o 1 _ rfl g1_24) (by kernel_rfl) (load_part (hM.box 9 rfl) [.int .u8 r.kind, .int .u8 r.cmd.kind, .int .u8 r.cmd.tick.c, .int .u64 r.cmd.tick.r, .int .u8 r.cmd.at_, .string r.cmd.name, .slice al r.cmd.legs.length cl, .int .i64 r.cmd.fare, .slice at1 r.cmd.taxes.length ct, .int .i64 r.cmd.penalty, .int .i64 r.cmd.amount, .int .u8 r.frm, .int .u64 r.number, .int .u8 r.msg.kind, .int .u8 r.msg.tick.c, .int .u64 r.msg.tick.r, .int .u8 r.msg.at_, .int .u8 r.msg.leg.c, .int .u16 r.msg.leg.f, .int .u32 r.msg.leg.x, .int .i64 r.msg.value, .int .u8 r.msg.status, .int .u32 r.msg.nonce, .int .i64 r.msg.amount, .int .i64 r.msg.code] rfl (Nat.le_of_ble_eq_true rfl) rfl)) (goes_still rfl rfl hM)
                      ·
                       refine op2 (a := 0) rfl fun e w ρ (hM : Mem _ w) E => ?_
                       have e90 : ρ (.tmp 90) = .agg (recCells r (.slice aly r.cmd.legs.length cly) (.slice aty r.cmd.taxes.length cty)) := E.d 0 _ 90 rfl rfl rfl
                       have e91 : ρ (.tmp 91) = .agg (recCells r (.slice al r.cmd.legs.length cl) (.slice at1 r.cmd.taxes.length ct)) := E.d 1 _ 91 rfl rfl rfl
                       refine res_in (x_call (args := #[.agg (recCells r (.slice aly r.cmd.legs.length cly) (.slice aty r.cmd.taxes.length cty)), .agg (recCells r (.slice al r.cmd.legs.length cl) (.slice at1 r.cmd.taxes.length ct))]) rfl rfl (E.f _) (by simp [e90, e91]) (by kernel_rfl)) ?_
                       refine (rsame_at r r aly aty al at1 cly cty cl ct _ _ hM (Reads.own 1 rfl) (Reads.own 2 rfl) ⟨hw.legs, hw.taxes⟩ (rdM rl 10 rfl) (rdM rt 10 rfl) ⟨hw.legs, hw.taxes⟩).mono ?_
                       rintro e' w' ⟨he, hm⟩
                       rw [sameW_self] at he
                       subst he
                       exact ⟨_, rfl, goes_still rfl rfl (hm)⟩
                      · exact op2 (a := 0) rfl fun e w ρ (hM : Mem _ w) E => res_ok (x_move rfl (E.d 2 _ 92 rfl rfl rfl)) (goes_still rfl rfl hM)
                      ·
                       refine op1 (a := 0) rfl fun e w ρ (hM : Mem _ w) E => ?_
                       refine (if_pos rfl).mpr ?_
                       refine res_in (x_call (args := #[]) rfl rfl (E.f _) (by simp) (by kernel_rfl)) ?_
                       refine (puts_at _ _ hM).mono ?_
                       rintro e' w' ⟨rfl, hm⟩
                       exact ⟨_, rfl, goes_still rfl rfl (hm)⟩
                      ·
                       refine op2 (a := 0) rfl fun e w ρ (hM : Mem _ w) E => ?_
                       have e93 : ρ (.tmp 93) = .bool true := E.d 3 _ 93 rfl rfl rfl
                       have e94 : ρ (.tmp 94) = .bool true := E.d 4 _ 94 rfl rfl rfl
                       exact res_ok (x_pick rfl (e93) (e94)) (goes_still rfl rfl hM)
                      · exact op2 (a := 0) rfl fun e w ρ (hM : Mem _ w) E => res_ok (x_assign rfl (E.d 5 _ 95 rfl rfl rfl)) (goes_still rfl rfl hM)
                     ·
                      intro e a25 w25 hz25 hd hG hO hM
                      have hd25 := hd.trans hd24
                      have g2_25 : a25.tmps[2]? = some (.bool true) := hG 6 _ 2 rfl rfl
                      have hM25 : Mem (boxC b24_1 (recCells r (.slice aly r.cmd.legs.length cly) (.slice aty r.cmd.taxes.length cty)) :: rowC 36 3 (.slice aly r.cmd.legs.length cly) r.cmd.legs.length (cellsL legE r.cmd.legs) :: rowC 58 2 (.slice aty r.cmd.taxes.length cty) r.cmd.taxes.length (cellsL taxE r.cmd.taxes) :: rowC 5 1 (.slice a3 ((putB r).length) c3) (putB r).length ((putB r).map (.int .u8)) :: boxE (some 36) gl cul :: rowC 5 1 (.slice a4 ((putB r).length) c4) (putB r).length ((putB r).map (.int .u8)) :: boxE (some 5) g cur :: boxC b6_1 (recCells r (.slice (some ⟨gl, 0, none⟩) r.cmd.legs.length capl) (.slice atx r.cmd.taxes.length ctx)) :: rowC 58 2 (.slice atx r.cmd.taxes.length ctx) r.cmd.taxes.length (cellsL taxE r.cmd.taxes) :: boxC b1_0 (recCells r (.slice al r.cmd.legs.length cl) (.slice at1 r.cmd.taxes.length ct)) :: D :: R) w25 := hM
                      clear hM hG hO hd
                      clear hz24 hd24 hM24 g1_24 g2_24 g13_24
                      refine then_n ?_
                      refine wp_ret ?_
                      refine ret_1 Try.results7 hd25 g2_25 ?_
                      exact ⟨rfl, (((((((((((hM25.erase 9 rfl).erase 8 rfl).erase 7 rfl).erase 6 rfl).erase 5 rfl).erase 4 rfl).erase 3 rfl).erase 2 rfl).erase 1 rfl).erase 0 rfl).front 0 rfl)⟩
       ·
        refine cond_t (g28_5.trans (by rw [decide_eq_false hE]; rfl)) ?_
        have hB0 : ((putB r).length : Int) = 0 := by rw [putB_no hE]; rfl
        refine wp_seq ?_
        refine region_seq 96 (fun zz e => (#[.slice a2 ((putB r).length) c2, .int .i64 ((putB r).length : Int), .bool true, .bool true, .bool true, .bool true, .bool true] : Array Value).getD zz undef) (fun k e w => Mem (List.getD [rowC 5 1 (.slice a3 ((putB r).length) c3) (putB r).length ((putB r).map (.int .u8)) :: rowC 5 1 (.slice a2 ((putB r).length) c2) (putB r).length ((putB r).map (.int .u8)) :: boxC b1_0 (recCells r (.slice al r.cmd.legs.length cl) (.slice at1 r.cmd.taxes.length ct)) :: D :: R] k []) w) (fun _ => (0, undef)) [] [0, 0, 0, 0, 0, 0, 0] (fun _ _ => false) hz5 (by kernel_rfl) (by kernel_rfl) (by kernel_rfl) ?_ (show Mem _ _ from hM5) ?_ ?_
        · exact ⟨fun _ _ _ => rfl, fun _ _ _ => rfl, fun _ _ _ => rfl, fun _ _ _ => rfl, fun _ _ _ => rfl, fun _ _ _ => rfl, fun _ _ _ => rfl, trivial⟩
        ·
         refine ⟨?_, ?_, ?_, ?_, ?_, ?_, ?_, trivial⟩
         · exact op2 (a := 0) rfl fun e w ρ (hM : Mem _ w) E => res_ok (x_move rfl (E.o 3 _ rfl g3_5)) (goes_still rfl rfl hM)
         ·
          refine op2 (a := 0) rfl fun e w ρ (hM : Mem _ w) E => ?_
          have e29 : ρ (.tmp 29) = .slice a2 ((putB r).length) c2 := E.d 0 _ 29 rfl rfl rfl
          exact res_ok (x_len (n := 1) rfl rfl rfl rfl (e29) (by kernel_rfl)) (goes_still rfl rfl hM)
         · exact op2 (a := 0) rfl fun e w ρ (hM : Mem _ w) E => res_ok (x_eql rfl (E.d 1 _ 30 rfl rfl rfl) (E.c _) (decide_eq_true hB0)) (goes_still rfl rfl hM)
         · exact op2 (a := 0) rfl fun e w ρ (hM : Mem _ w) E => res_ok (x_move rfl (E.d 2 _ 31 rfl rfl rfl)) (goes_still rfl rfl hM)
         ·
          refine op1 (a := 0) rfl fun e w ρ (hM : Mem _ w) E => ?_
          refine (if_pos rfl).mpr ?_
          refine res_in (x_call (args := #[]) rfl rfl (E.f _) (by simp) (by kernel_rfl)) ?_
          refine (puts_at _ _ hM).mono ?_
          rintro e' w' ⟨rfl, hm⟩
          exact ⟨_, rfl, goes_still rfl rfl (hm)⟩
         ·
          refine op2 (a := 0) rfl fun e w ρ (hM : Mem _ w) E => ?_
          have e32 : ρ (.tmp 32) = .bool true := E.d 3 _ 32 rfl rfl rfl
          have e33 : ρ (.tmp 33) = .bool true := E.d 4 _ 33 rfl rfl rfl
          exact res_ok (x_pick rfl (e32) (e33)) (goes_still rfl rfl hM)
         · exact op2 (a := 0) rfl fun e w ρ (hM : Mem _ w) E => res_ok (x_assign rfl (E.d 5 _ 34 rfl rfl rfl)) (goes_still rfl rfl hM)
        ·
         intro e a26 w26 hz26 hd hG hO hM
         have hd26 := hd.trans hd5
         have g1_26 := (hO 1 rfl).trans g1_5
         have g2_26 : a26.tmps[2]? = some (.bool true) := hG 6 _ 2 rfl rfl
         have g3_26 := (hO 3 rfl).trans g3_5
         have g5_26 := (hO 5 rfl).trans g5_5
         have hM26 : Mem (rowC 5 1 (.slice a3 ((putB r).length) c3) (putB r).length ((putB r).map (.int .u8)) :: rowC 5 1 (.slice a2 ((putB r).length) c2) (putB r).length ((putB r).map (.int .u8)) :: boxC b1_0 (recCells r (.slice al r.cmd.legs.length cl) (.slice at1 r.cmd.taxes.length ct)) :: D :: R) w26 := hM
         clear hM hG hO hd
         clear hz5 hd5 hM5 g1_5 g2_5 g3_5 g5_5 g28_5
         refine then_n ?_
         refine wp_ret ?_
         refine then_r ?_
         refine ret_1 Try.results7 hd26 g2_26 ?_
         exact ⟨rfl, ((((hM26.erase 2 rfl).erase 1 rfl).erase 0 rfl).front 0 rfl)⟩
   ·
    refine cond_t (g16_2.trans (by rw [hc1])) ?_
    refine wp_seq ?_
    refine region_seq 96 (fun zz e => (#[.bool true] : Array Value).getD zz undef) (fun k e w => Mem (List.getD [boxC b1_0 (recCells r (.slice al r.cmd.legs.length cl) (.slice at1 r.cmd.taxes.length ct)) :: D :: R] k []) w) (fun _ => (0, undef)) [] [0] (fun _ _ => false) hz2 (by kernel_rfl) (by kernel_rfl) (by kernel_rfl) ?_ (show Mem _ _ from hM2) ?_ ?_
    · exact ⟨fun _ _ _ => rfl, trivial⟩
    ·
     refine ⟨?_, trivial⟩
     · exact op2 (a := 0) rfl fun e w ρ (hM : Mem _ w) E => res_ok (x_assign rfl (E.c _)) (goes_still rfl rfl hM)
    ·
     intro e a27 w27 hz27 hd hG hO hM
     have hd27 := hd.trans hd2
     have g1_27 := (hO 1 rfl).trans g1_2
     have g2_27 : a27.tmps[2]? = some (.bool true) := hG 0 _ 2 rfl rfl
     have hM27 : Mem (boxC b1_0 (recCells r (.slice al r.cmd.legs.length cl) (.slice at1 r.cmd.taxes.length ct)) :: D :: R) w27 := hM
     clear hM hG hO hd
     clear hz2 hd2 hM2 g1_2 g2_2 g16_2
     refine then_n ?_
     refine wp_ret ?_
     refine then_r ?_
     refine ret_1 Try.results7 hd27 g2_27 ?_
     exact ⟨rfl, ((hM27.erase 0 rfl).front 0 rfl)⟩
theorem own_any (r : RecV) (al at1 : Option Addr) (cl ct : Nat) (w : World) (hl : Row w al (cellsL legE r.cmd.legs)) (ht : Row w at1 (cellsL taxE r.cmd.taxes)) (hi : RecIn r) :
  Calls Try.prog 7 #[.agg (recCells r (.slice al r.cmd.legs.length cl) (.slice at1 r.cmd.taxes.length ct))] w fun e w' => e = .returned (.bool true) ∧ Below w.heap.size w w' :=
 (own_at r al at1 cl ct (oldC w) [] w (Mem.old w) (rd_old hl) (rd_old ht) hi).mono fun e w' h => ⟨h.1, h.2.below 0 rfl⟩
end Go.Proofs.Ytfcjmpgbohgoeaa
