/- CODEC: the walk of CodecApart. -/
import Derived.Test.YtfcjmpgbohgoeaaCo23
namespace Go.Proofs.Ytfcjmpgbohgoeaa
open Go.RowKit Go.Lib Go.Tk Go.Shelf Go.Vc
set_option linter.unusedVariables false
set_option linter.unusedSimpArgs false
attribute [-go_sem] loadCellsFrom
theorem rdv {E : TypeId} {size n c : Nat} {v : Value} {a : Option Addr} {xs : List Value} (h : v = .slice a n c) : Rd (rowC E size v n xs) a xs := by subst h; exact rd_row
theorem preRd {D : Chunk} {a : Option Addr} {xs : List Int} (h : Rd D a (xs.map (Value.int .u8))) (k : Nat) : Rd D a ((xs.take k).map (Value.int .u8)) := fun S w hw => by
 have := h S w hw
 rw [← List.take_append_drop k xs, List.map_append] at this
 exact this.append
theorem row_some {w : World} {a : Option Addr} {xs : List Value} (h : Row w a xs) (hx : 0 < xs.length) : ∃ ad, a = some ad := by
 obtain ⟨b, off, ha, -⟩ := h 0 hx
 exact ⟨_, ha⟩
theorem put_pos {r : RecV} (hi : RecIn r) (h : putE r = 0) : 10 ≤ (putB r).length := by
 have h1 := recBy_len r
 have h2 : 10 ≤ sizeV r := by
  have h3 := sumC_ge r.cmd.taxes
  unfold sizeV
  split
  · omega
  · split <;> omega
 rw [putB_eq h hi]; omega
theorem ofBytes_inj {a b : List Int} (ha : By a) (hb : By b) (h : ofBytes a = ofBytes b) : a = b := by
 rw [← bytesOf_ofBytes ha, ← bytesOf_ofBytes hb, h]
theorem same_bytes {r s : RecV} (hr : RecIn r) (hs : RecIn s) (h1 : putE r = 0) (h2 : putE s = 0) : decide (ofBytes (putB r) = ofBytes (putB s)) = sameW r s := by
 rw [Bool.eq_iff_iff, decide_eq_true_eq, sameW_iff]
 constructor
 ·
  intro h
  have e := ofBytes_inj (put_by hr) (put_by hs) h
  rw [← (get_of_put hr h1).2, ← (get_of_put hs h2).2, e]
 · rintro rfl; rfl
theorem apart_behind {r : RecV} (hi : RecIn r) (h : putE r = 0) {bh : List Int} (hb : 0 < bh.length) : getE (putB r ++ bh) = 140 ∧ getR (putB r ++ bh) = rec0 := by
 obtain ⟨h1, h2⟩ := putOk_T hi h
 have e := get_put h1 bh
 rw [← h2] at e
 have : badT (putB r ++ bh) := .inr (by rw [e]; show (bh.length : Int) > 0; omega)
 exact ⟨if_pos this, if_pos this⟩
theorem apart_prefix {r : RecV} (hi : RecIn r) (h : putE r = 0) {k : Nat} (hk : k < (putB r).length) : getE ((putB r).take k) = 140 ∧ getR ((putB r).take k) = rec0 := by
 refine get_bad fun h0 => ?_
 have hb : By ((putB r).take k) := fun x hx => put_by hi x (List.mem_of_mem_take hx)
 obtain ⟨k1, k2, k3⟩ := put_of_get hb h0
 obtain ⟨h1, h2⟩ := putOk_T hi h
 have e1 := get_put h1 []
 have e2 := get_put k1 ((putB r).drop k)
 rw [← putB_eq k2 k1.i, k3, List.take_append_drop] at e2
 rw [List.append_nil, ← h2, e2] at e1
 have e3 := congrArg (fun p => p.2.bs.length) e1
 have e4 : ((putB r).drop k).length = 0 := e3
 rw [List.length_drop] at e4
 omega
theorem one_u8 {xs : List Int} : ∀ u ∈ xs.map (Value.int .u8), u.oneCell' = true := fun u hu => by
 obtain ⟨x, -, rfl⟩ := List.mem_map.1 hu; rfl
theorem tmod_range {x n : Int} (hn : 0 < n) : -n < Int.tmod x n ∧ Int.tmod x n < n := by
 constructor
 ·
  rcases Int.le_total 0 x with h | h
  · have := Int.tmod_nonneg n h; omega
  ·
   have h1 : Int.tmod x n = -Int.tmod (-x) n := by rw [Int.neg_tmod, Int.neg_neg]
   have h2 := Int.tmod_lt_of_pos (-x) hn
   omega
 · exact Int.tmod_lt_of_pos x hn
set_option maxRecDepth 100000 in
set_option maxHeartbeats 8000000 in
theorem apart_at (r : RecV) (al at1 : Option Addr) (cl ct : Nat) (s : RecV) (als ats : Option Addr) (cls cts : Nat) (ab : Option Addr) (cb : Nat) (bh : List Int) (cut : Int) (D : Chunk) (R : List Chunk) (w : World) (hM : Mem (D :: R) w) (rl : Rd D al (cellsL legE r.cmd.legs)) (rt : Rd D at1 (cellsL taxE r.cmd.taxes)) (hi : RecIn r) (sl : Rd D als (cellsL legE s.cmd.legs)) (st : Rd D ats (cellsL taxE s.cmd.taxes)) (hj : RecIn s) (rb : Rd D ab (bh.map (.int .u8))) (hlc : bh.length ≤ cb) (hac : ab = none → cb = 0) (hin : By bh) (hbm : bh.length ≤ maxLen) :
  Calls Try.prog 6 #[.agg (recCells r (.slice al r.cmd.legs.length cl) (.slice at1 r.cmd.taxes.length ct)), .agg (recCells s (.slice als s.cmd.legs.length cls) (.slice ats s.cmd.taxes.length cts)), .slice ab bh.length cb, .int .i64 cut] w fun e w' => e = .returned (.bool true) ∧ Mem (D :: R) w' := by
 unfold maxLen at hbm
 refine enter Try.func6 rfl Try.ntmps6 (Nat.le_of_ble_eq_true rfl) ?_
 intro a0 hz0 hd0 hg0
 have g0_0 : a0.tmps[0]? = some (.agg (recCells r (.slice al r.cmd.legs.length cl) (.slice at1 r.cmd.taxes.length ct))) := hg0 0 _ rfl
 have g1_0 : a0.tmps[1]? = some (.agg (recCells s (.slice als s.cmd.legs.length cls) (.slice ats s.cmd.taxes.length cts))) := hg0 1 _ rfl
 have g2_0 : a0.tmps[2]? = some (.slice ab bh.length cb) := hg0 2 _ rfl
 have g3_0 : a0.tmps[3]? = some (.int .i64 cut) := hg0 3 _ rfl
 clear hg0
 have hM0 : Mem (D :: R) _ := hM
 refine wp_seq ?_
 refine region_seq 94 (fun zz e => (#[.pointer (some ⟨(e 0).1, 0, none⟩), .pointer (some ⟨(e 1).1, 0, none⟩), .bool false] : Array Value).getD zz undef) (fun k e w => Mem (List.getD [D :: R, boxC ((e 0).1) (recCells r (.slice al r.cmd.legs.length cl) (.slice at1 r.cmd.taxes.length ct)) :: D :: R, boxC ((e 1).1) (recCells s (.slice als s.cmd.legs.length cls) (.slice ats s.cmd.taxes.length cts)) :: boxC ((e 0).1) (recCells r (.slice al r.cmd.legs.length cl) (.slice at1 r.cmd.taxes.length ct)) :: D :: R] k []) w) (fun _ => (0, undef)) [0, 1] [0, 1, 2] (fun _ _ => false) hz0 (by kernel_rfl) (by kernel_rfl) (by kernel_rfl) ?_ (show Mem _ _ from hM0) ?_ ?_
 · exact ⟨fun e e' h => congrArg (fun x : Rv => (.pointer (some ⟨x.1, 0, none⟩) : Value)) (h 0 (by decide)), fun e e' h => congrArg (fun x : Rv => (.pointer (some ⟨x.1, 0, none⟩) : Value)) (h 1 (by decide)), fun _ _ _ => rfl, trivial⟩
 ·
  refine ⟨?_, ?_, ?_, trivial⟩
  ·
   refine op2 (a := 0) rfl fun e w ρ (hM : Mem _ w) E => ?_
   have e0 : ρ (.tmp 0) = .agg (recCells r (.slice al r.cmd.legs.length cl) (.slice at1 r.cmd.taxes.length ct)) := E.o 0 _ rfl g0_0
   exact res_ok (x_box rfl (e0)) (goes_tick rfl (w.heap.size, undef) rfl (hM.alloc _ _))
  ·
   refine op2 (a := 1) rfl fun e w ρ (hM : Mem _ w) E => ?_
   have e1 : ρ (.tmp 1) = .agg (recCells s (.slice als s.cmd.legs.length cls) (.slice ats s.cmd.taxes.length cts)) := E.o 1 _ rfl g1_0
   exact res_ok (x_box rfl (e1)) (goes_tick rfl (w.heap.size, undef) rfl (hM.alloc _ _))
  · exact op2 (a := 2) rfl fun e w ρ (hM : Mem _ w) E => res_ok (x_assign rfl (E.c _)) (goes_still rfl rfl hM)
 ·
  intro e a1 w1 hz1 hd hG hO hM
  have hd1 := hd.trans hd0
  have g2_1 := (hO 2 rfl).trans g2_0
  have g3_1 := (hO 3 rfl).trans g3_0
  have g4_1 : a1.tmps[4]? = some (.pointer (some ⟨(e 0).1, 0, none⟩)) := hG 0 _ 4 rfl rfl
  have g5_1 : a1.tmps[5]? = some (.pointer (some ⟨(e 1).1, 0, none⟩)) := hG 1 _ 5 rfl rfl
  have g8_1 : a1.tmps[8]? = some (.bool false) := hG 2 _ 8 rfl rfl
  have hM1 : Mem (boxC ((e 1).1) (recCells s (.slice als s.cmd.legs.length cls) (.slice ats s.cmd.taxes.length cts)) :: boxC ((e 0).1) (recCells r (.slice al r.cmd.legs.length cl) (.slice at1 r.cmd.taxes.length ct)) :: D :: R) w1 := hM
  clear hM hG hO hd
  clear hz0 hd0 hM0 g0_0 g1_0 g2_0 g3_0
  generalize (e 0).1 = b1_0 at *
  generalize (e 1).1 = b1_1 at *
  refine then_n ?_
  refine wp_seq ?_
  refine wp_seq ?_
  obtain ⟨z1_2, hz1_2⟩ : ∃ z : Bool, z = (greatV r) := ⟨_, rfl⟩
  obtain ⟨z1_6, hz1_6⟩ : ∃ z : Bool, z = (z1_2 || (greatV s)) := ⟨_, rfl⟩
  refine region_seq 94 (fun zz e => (#[.agg (recCells r (.slice al r.cmd.legs.length cl) (.slice at1 r.cmd.taxes.length ct)), .bool (greatV r), .bool z1_2, (gd z1_2 false (.agg (recCells s (.slice als s.cmd.legs.length cls) (.slice ats s.cmd.taxes.length cts)))), (gd z1_2 false (.bool (greatV s))), .bool (z1_2 || (greatV s)), .bool z1_6, (gd z1_6 false (.slice ab bh.length cb)), (gd z1_6 false (.int .i64 (bh.length : Int))), (gd z1_6 false (.bool (decide ((bh.length : Int) > 200)))), .bool (z1_6 || (decide ((bh.length : Int) > 200)))] : Array Value).getD zz undef) (fun k e w => Mem (List.getD [boxC b1_1 (recCells s (.slice als s.cmd.legs.length cls) (.slice ats s.cmd.taxes.length cts)) :: boxC b1_0 (recCells r (.slice al r.cmd.legs.length cl) (.slice at1 r.cmd.taxes.length ct)) :: D :: R] k []) w) (fun _ => (0, undef)) [] [0, 0, 0, 0, 0, 0, 0, 0, 0, 0, 0] (fun _ _ => false) hz1 (by kernel_rfl) (by kernel_rfl) (by kernel_rfl) ?_ (show Mem _ _ from hM1) ?_ ?_
  · exact ⟨fun _ _ _ => rfl, fun _ _ _ => rfl, fun _ _ _ => rfl, fun _ _ _ => rfl, fun _ _ _ => rfl, fun _ _ _ => rfl, fun _ _ _ => rfl, fun _ _ _ => rfl, fun _ _ _ => rfl, fun _ _ _ => rfl, fun _ _ _ => rfl, trivial⟩
  ·
   refine ⟨?_, ?_, ?_, ?_, ?_, ?_, ?_, ?_, ?_, ?_, ?_, trivial⟩
   · exact op2 (a := 0) rfl fun e w ρ (hM : Mem _ w) E => res_ok (x_loads rfl (E.o 4 _ rfl g4_1) (by kernel_rfl) (load_part (hM.box 1 rfl) [.int .u8 r.kind, .int .u8 r.cmd.kind, .int .u8 r.cmd.tick.c, .int .u64 r.cmd.tick.r, .int .u8 r.cmd.at_, .string r.cmd.name, .slice al r.cmd.legs.length cl, .int .i64 r.cmd.fare, .slice at1 r.cmd.taxes.length ct, .int .i64 r.cmd.penalty, .int .i64 r.cmd.amount, .int .u8 r.frm, .int .u64 r.number, .int .u8 r.msg.kind, .int .u8 r.msg.tick.c, .int .u64 r.msg.tick.r, .int .u8 r.msg.at_, .int .u8 r.msg.leg.c, .int .u16 r.msg.leg.f, .int .u32 r.msg.leg.x, .int .i64 r.msg.value, .int .u8 r.msg.status, .int .u32 r.msg.nonce, .int .i64 r.msg.amount, .int .i64 r.msg.code] rfl (Nat.le_of_ble_eq_true rfl) rfl)) (goes_still rfl rfl hM)
   ·
    refine op2 (a := 0) rfl fun e w ρ (hM : Mem _ w) E => ?_
    have e18 : ρ (.tmp 18) = .agg (recCells r (.slice al r.cmd.legs.length cl) (.slice at1 r.cmd.taxes.length ct)) := E.d 0 _ 18 rfl rfl rfl
    refine res_in (x_call (args := #[.agg (recCells r (.slice al r.cmd.legs.length cl) (.slice at1 r.cmd.taxes.length ct))]) rfl rfl (E.f _) (by simp [e18]) (by kernel_rfl)) ?_
    refine (great_at r al at1 cl ct _ _ hM (rdM rt 2 rfl) hi.cmd.nt).mono ?_
    rintro e' w' ⟨rfl, hm⟩
    exact ⟨_, rfl, goes_still rfl rfl (hm)⟩
   · exact op2 (a := 0) rfl fun e w ρ (hM : Mem _ w) E => res_ok (x_move rfl (E.d 1 _ 19 rfl rfl rfl)) (goes_still rfl (congrArg Value.bool hz1_2.symm) hM)
   · exact op3 (a := 0) z1_2 rfl (fun _ => rfl) rfl (fun hC _ => (gd_no hC).symm) fun hC e w ρ (hM : Mem _ w) E => res_ok (x_loads rfl (E.o 5 _ rfl g5_1) (by kernel_rfl) (load_part (hM.box 0 rfl) [.int .u8 s.kind, .int .u8 s.cmd.kind, .int .u8 s.cmd.tick.c, .int .u64 s.cmd.tick.r, .int .u8 s.cmd.at_, .string s.cmd.name, .slice als s.cmd.legs.length cls, .int .i64 s.cmd.fare, .slice ats s.cmd.taxes.length cts, .int .i64 s.cmd.penalty, .int .i64 s.cmd.amount, .int .u8 s.frm, .int .u64 s.number, .int .u8 s.msg.kind, .int .u8 s.msg.tick.c, .int .u64 s.msg.tick.r, .int .u8 s.msg.at_, .int .u8 s.msg.leg.c, .int .u16 s.msg.leg.f, .int .u32 s.msg.leg.x, .int .i64 s.msg.value, .int .u8 s.msg.status, .int .u32 s.msg.nonce, .int .i64 s.msg.amount, .int .i64 s.msg.code] rfl (Nat.le_of_ble_eq_true rfl) rfl)) (goes_still rfl (gd_yes hC).symm hM)
   ·
    refine op3 (a := 0) z1_2 rfl (fun _ => rfl) rfl (fun hC _ => (gd_no hC).symm) fun hC e w ρ (hM : Mem _ w) E => ?_
    have e21 : ρ (.tmp 21) = .agg (recCells s (.slice als s.cmd.legs.length cls) (.slice ats s.cmd.taxes.length cts)) := ((E.d 3 _ 21 rfl rfl rfl).trans (gd_yes hC))
    refine res_in (x_call (args := #[.agg (recCells s (.slice als s.cmd.legs.length cls) (.slice ats s.cmd.taxes.length cts))]) rfl rfl (E.f _) (by simp [e21]) (by kernel_rfl)) ?_
    refine (great_at s als ats cls cts _ _ hM (rdM st 2 rfl) hj.cmd.nt).mono ?_
    rintro e' w' ⟨rfl, hm⟩
    exact ⟨_, rfl, goes_still rfl (gd_yes hC).symm (hm)⟩
   · exact op2 (a := 0) rfl fun e w ρ (hM : Mem _ w) E => res_ok (x_pickOr rfl (E.d 2 _ 20 rfl rfl rfl) (fun hC => ((E.d 4 _ 22 rfl rfl rfl).trans (gd_f hC))) (E.c _)) (goes_still rfl rfl hM)
   · exact op2 (a := 0) rfl fun e w ρ (hM : Mem _ w) E => res_ok (x_move rfl (E.d 5 _ 23 rfl rfl rfl)) (goes_still rfl (congrArg Value.bool hz1_6.symm) hM)
   · exact op3 (a := 0) z1_6 rfl (fun _ => rfl) rfl (fun hC _ => (gd_no hC).symm) fun hC e w ρ (hM : Mem _ w) E => res_ok (x_move rfl (E.o 2 _ rfl g2_1)) (goes_still rfl (gd_yes hC).symm hM)
   ·
    refine op3 (a := 0) z1_6 rfl (fun _ => rfl) rfl (fun hC _ => (gd_no hC).symm) fun hC e w ρ (hM : Mem _ w) E => ?_
    have e25 : ρ (.tmp 25) = .slice ab bh.length cb := ((E.d 7 _ 25 rfl rfl rfl).trans (gd_yes hC))
    exact res_ok (x_len (n := 1) rfl rfl rfl rfl (e25) (by kernel_rfl)) (goes_still rfl (gd_yes hC).symm hM)
   · exact op3 (a := 0) z1_6 rfl (fun _ => rfl) rfl (fun hC _ => (gd_no hC).symm) fun hC e w ρ (hM : Mem _ w) E => res_ok (x_gtr rfl ((E.d 8 _ 26 rfl rfl rfl).trans (gd_yes hC)) (E.c _) rfl) (goes_still rfl (gd_yes hC).symm hM)
   · exact op2 (a := 0) rfl fun e w ρ (hM : Mem _ w) E => res_ok (x_pickOr rfl (E.d 6 _ 24 rfl rfl rfl) (fun hC => ((E.d 9 _ 27 rfl rfl rfl).trans (gd_f hC))) (E.c _)) (goes_still rfl rfl hM)
  ·
   intro e a2 w2 hz2 hd hG hO hM
   have hd2 := hd.trans hd1
   have g2_2 := (hO 2 rfl).trans g2_1
   have g3_2 := (hO 3 rfl).trans g3_1
   have g4_2 := (hO 4 rfl).trans g4_1
   have g5_2 := (hO 5 rfl).trans g5_1
   have g8_2 := (hO 8 rfl).trans g8_1
   have g28_2 : a2.tmps[28]? = some (.bool (z1_6 || (decide ((bh.length : Int) > 200)))) := hG 10 _ 28 rfl rfl
   have hM2 : Mem (boxC b1_1 (recCells s (.slice als s.cmd.legs.length cls) (.slice ats s.cmd.taxes.length cts)) :: boxC b1_0 (recCells r (.slice al r.cmd.legs.length cl) (.slice at1 r.cmd.taxes.length ct)) :: D :: R) w2 := hM
   clear hM hG hO hd
   clear hz1 hd1 hM1 g2_1 g3_1 g4_1 g5_1 g8_1
   refine then_n ?_
   cases hc1 : z1_6 || (decide ((bh.length : Int) > 200))
   ·
    refine cond_f (g28_2.trans (by rw [hc1])) ?_
    have hgg := hc1
    rw [hz1_6, hz1_2, Bool.or_eq_false_iff, Bool.or_eq_false_iff, decide_eq_false_iff_not] at hgg
    obtain ⟨⟨hgr, hgs⟩, hbl⟩ := hgg
    obtain ⟨⟨hgn, hgl, hgt⟩, hgc⟩ := not_great hgr
    have hw := hi.w (by omega) (by omega)
    obtain ⟨⟨hgn2, hgl2, hgt2⟩, hgc2⟩ := not_great hgs
    have hv := hj.w (by omega) (by omega)
    refine wp_skip ?_
    refine then_n ?_
    refine wp_seq ?_
    refine region_seq 94 (fun zz e => (#[.agg (recCells r (.slice al r.cmd.legs.length cl) (.slice at1 r.cmd.taxes.length ct)), .tuple #[(e 0).2, .int .i64 (putE r)], .tuple #[(e 0).2, .int .i64 (putE r)], (e 0).2, .int .i64 (putE r), (e 0).2, .int .i64 (putE r)] : Array Value).getD zz undef) (fun k e w => Mem (List.getD [boxC b1_1 (recCells s (.slice als s.cmd.legs.length cls) (.slice ats s.cmd.taxes.length cts)) :: boxC b1_0 (recCells r (.slice al r.cmd.legs.length cl) (.slice at1 r.cmd.taxes.length ct)) :: D :: R, rowC 5 1 (e 0).2 (putB r).length ((putB r).map (.int .u8)) :: boxC b1_1 (recCells s (.slice als s.cmd.legs.length cls) (.slice ats s.cmd.taxes.length cts)) :: boxC b1_0 (recCells r (.slice al r.cmd.legs.length cl) (.slice at1 r.cmd.taxes.length ct)) :: D :: R] k []) w) (fun _ => (0, undef)) [1] [0, 0, 1, 1, 1, 1, 1] (fun _ _ => false) hz2 (by kernel_rfl) (by kernel_rfl) (by kernel_rfl) ?_ (show Mem _ _ from hM2) ?_ ?_
    · exact ⟨fun _ _ _ => rfl, fun e e' h => congrArg (fun x : Rv => (.tuple #[x.2, .int .i64 (putE r)] : Value)) (h 0 (by decide)), fun e e' h => congrArg (fun x : Rv => (.tuple #[x.2, .int .i64 (putE r)] : Value)) (h 0 (by decide)), fun e e' h => congrArg (fun x : Rv => (x.2 : Value)) (h 0 (by decide)), fun _ _ _ => rfl, fun e e' h => congrArg (fun x : Rv => (x.2 : Value)) (h 0 (by decide)), fun _ _ _ => rfl, trivial⟩
    ·
     refine ⟨?_, ?_, ?_, ?_, ?_, ?_, ?_, trivial⟩
     · exact op2 (a := 0) rfl fun e w ρ (hM : Mem _ w) E => res_ok (x_loads rfl (E.o 4 _ rfl g4_2) (by kernel_rfl) (load_part (hM.box 1 rfl) [.int .u8 r.kind, .int .u8 r.cmd.kind, .int .u8 r.cmd.tick.c, .int .u64 r.cmd.tick.r, .int .u8 r.cmd.at_, .string r.cmd.name, .slice al r.cmd.legs.length cl, .int .i64 r.cmd.fare, .slice at1 r.cmd.taxes.length ct, .int .i64 r.cmd.penalty, .int .i64 r.cmd.amount, .int .u8 r.frm, .int .u64 r.number, .int .u8 r.msg.kind, .int .u8 r.msg.tick.c, .int .u64 r.msg.tick.r, .int .u8 r.msg.at_, .int .u8 r.msg.leg.c, .int .u16 r.msg.leg.f, .int .u32 r.msg.leg.x, .int .i64 r.msg.value, .int .u8 r.msg.status, .int .u32 r.msg.nonce, .int .i64 r.msg.amount, .int .i64 r.msg.code] rfl (Nat.le_of_ble_eq_true rfl) rfl)) (goes_still rfl rfl hM)
     ·
      refine op2 (a := 0) rfl fun e w ρ (hM : Mem _ w) E => ?_
      have e30 : ρ (.tmp 30) = .agg (recCells r (.slice al r.cmd.legs.length cl) (.slice at1 r.cmd.taxes.length ct)) := E.d 0 _ 30 rfl rfl rfl
      refine res_in (x_call (args := #[.agg (recCells r (.slice al r.cmd.legs.length cl) (.slice at1 r.cmd.taxes.length ct))]) rfl rfl (E.f _) (by simp [e30]) (by kernel_rfl)) ?_
      refine (put_at r al at1 cl ct _ _ hM (rdM rl 2 rfl) (rdM rt 2 rfl) hw).mono ?_
      rintro e' w' ⟨v', rfl, hm⟩
      exact ⟨_, rfl, goes_tick rfl (0, v') rfl hm⟩
     · exact op2 (a := 1) rfl fun e w ρ (hM : Mem _ w) E => res_ok (x_move rfl (E.d 1 _ 31 rfl rfl rfl)) (goes_still rfl rfl hM)
     ·
      refine op2 (a := 1) rfl fun e w ρ (hM : Mem _ w) E => ?_
      have e29 : ρ (.tmp 29) = .tuple #[(e 0).2, .int .i64 (putE r)] := E.d 2 _ 29 rfl rfl rfl
      exact res_ok (x_extract rfl (e29) rfl) (goes_still rfl rfl hM)
     ·
      refine op2 (a := 1) rfl fun e w ρ (hM : Mem _ w) E => ?_
      have e29 : ρ (.tmp 29) = .tuple #[(e 0).2, .int .i64 (putE r)] := E.d 2 _ 29 rfl rfl rfl
      exact res_ok (x_extract rfl (e29) rfl) (goes_still rfl rfl hM)
     · exact op2 (a := 1) rfl fun e w ρ (hM : Mem _ w) E => res_ok (x_assign rfl (E.d 3 _ 32 rfl rfl rfl)) (goes_still rfl rfl hM)
     · exact op2 (a := 1) rfl fun e w ρ (hM : Mem _ w) E => res_ok (x_assign rfl (E.d 4 _ 33 rfl rfl rfl)) (goes_still rfl rfl hM)
    ·
     intro e a3 w3 hz3 hd hG hO hM
     have hd3 := hd.trans hd2
     have g2_3 := (hO 2 rfl).trans g2_2
     have g3_3 := (hO 3 rfl).trans g3_2
     have g4_3 := (hO 4 rfl).trans g4_2
     have g5_3 := (hO 5 rfl).trans g5_2
     have g8_3 := (hO 8 rfl).trans g8_2
     have g9_3 : a3.tmps[9]? = some ((e 0).2) := hG 5 _ 9 rfl rfl
     have g10_3 : a3.tmps[10]? = some (.int .i64 (putE r)) := hG 6 _ 10 rfl rfl
     have hM3 : Mem (rowC 5 1 (e 0).2 (putB r).length ((putB r).map (.int .u8)) :: boxC b1_1 (recCells s (.slice als s.cmd.legs.length cls) (.slice ats s.cmd.taxes.length cts)) :: boxC b1_0 (recCells r (.slice al r.cmd.legs.length cl) (.slice at1 r.cmd.taxes.length ct)) :: D :: R) w3 := hM
     clear hM hG hO hd
     clear hz2 hd2 hM2 g2_2 g3_2 g4_2 g5_2 g8_2 g28_2
     generalize (e 0).2 = v3_0 at *
     obtain ⟨a2, c2, rfl, hrwA, hlcA, hcmA, hacA⟩ := (hM3.owns 0 rfl).row
     refine then_n ?_
     refine wp_seq ?_
     refine region_seq 94 (fun zz e => (#[.agg (recCells s (.slice als s.cmd.legs.length cls) (.slice ats s.cmd.taxes.length cts)), .tuple #[(e 0).2, .int .i64 (putE s)], .tuple #[(e 0).2, .int .i64 (putE s)], (e 0).2, .int .i64 (putE s), (e 0).2, .int .i64 (putE s)] : Array Value).getD zz undef) (fun k e w => Mem (List.getD [rowC 5 1 (.slice a2 ((putB r).length) c2) (putB r).length ((putB r).map (.int .u8)) :: boxC b1_1 (recCells s (.slice als s.cmd.legs.length cls) (.slice ats s.cmd.taxes.length cts)) :: boxC b1_0 (recCells r (.slice al r.cmd.legs.length cl) (.slice at1 r.cmd.taxes.length ct)) :: D :: R, rowC 5 1 (e 0).2 (putB s).length ((putB s).map (.int .u8)) :: rowC 5 1 (.slice a2 ((putB r).length) c2) (putB r).length ((putB r).map (.int .u8)) :: boxC b1_1 (recCells s (.slice als s.cmd.legs.length cls) (.slice ats s.cmd.taxes.length cts)) :: boxC b1_0 (recCells r (.slice al r.cmd.legs.length cl) (.slice at1 r.cmd.taxes.length ct)) :: D :: R] k []) w) (fun _ => (0, undef)) [1] [0, 0, 1, 1, 1, 1, 1] (fun _ _ => false) hz3 (by kernel_rfl) (by kernel_rfl) (by kernel_rfl) ?_ (show Mem _ _ from hM3) ?_ ?_
     · exact ⟨fun _ _ _ => rfl, fun e e' h => congrArg (fun x : Rv => (.tuple #[x.2, .int .i64 (putE s)] : Value)) (h 0 (by decide)), fun e e' h => congrArg (fun x : Rv => (.tuple #[x.2, .int .i64 (putE s)] : Value)) (h 0 (by decide)), fun e e' h => congrArg (fun x : Rv => (x.2 : Value)) (h 0 (by decide)), fun _ _ _ => rfl, fun e e' h => congrArg (fun x : Rv => (x.2 : Value)) (h 0 (by decide)), fun _ _ _ => rfl, trivial⟩
     ·
      refine ⟨?_, ?_, ?_, ?_, ?_, ?_, ?_, trivial⟩
      · exact op2 (a := 0) rfl fun e w ρ (hM : Mem _ w) E => res_ok (x_loads rfl (E.o 5 _ rfl g5_3) (by kernel_rfl) (load_part (hM.box 1 rfl) [.int .u8 s.kind, .int .u8 s.cmd.kind, .int .u8 s.cmd.tick.c, .int .u64 s.cmd.tick.r, .int .u8 s.cmd.at_, .string s.cmd.name, .slice als s.cmd.legs.length cls, .int .i64 s.cmd.fare, .slice ats s.cmd.taxes.length cts, .int .i64 s.cmd.penalty, .int .i64 s.cmd.amount, .int .u8 s.frm, .int .u64 s.number, .int .u8 s.msg.kind, .int .u8 s.msg.tick.c, .int .u64 s.msg.tick.r, .int .u8 s.msg.at_, .int .u8 s.msg.leg.c, .int .u16 s.msg.leg.f, .int .u32 s.msg.leg.x, .int .i64 s.msg.value, .int .u8 s.msg.status, .int .u32 s.msg.nonce, .int .i64 s.msg.amount, .int .i64 s.msg.code] rfl (Nat.le_of_ble_eq_true rfl) rfl)) (goes_still rfl rfl hM)
      ·
       refine op2 (a := 0) rfl fun e w ρ (hM : Mem _ w) E => ?_
       have e35 : ρ (.tmp 35) = .agg (recCells s (.slice als s.cmd.legs.length cls) (.slice ats s.cmd.taxes.length cts)) := E.d 0 _ 35 rfl rfl rfl
       refine res_in (x_call (args := #[.agg (recCells s (.slice als s.cmd.legs.length cls) (.slice ats s.cmd.taxes.length cts))]) rfl rfl (E.f _) (by simp [e35]) (by kernel_rfl)) ?_
       refine (put_at s als ats cls cts _ _ hM (rdM sl 3 rfl) (rdM st 3 rfl) hv).mono ?_
       rintro e' w' ⟨v', rfl, hm⟩
       exact ⟨_, rfl, goes_tick rfl (0, v') rfl hm⟩
      · exact op2 (a := 1) rfl fun e w ρ (hM : Mem _ w) E => res_ok (x_move rfl (E.d 1 _ 36 rfl rfl rfl)) (goes_still rfl rfl hM)
      ·
       refine op2 (a := 1) rfl fun e w ρ (hM : Mem _ w) E => ?_
       have e34 : ρ (.tmp 34) = .tuple #[(e 0).2, .int .i64 (putE s)] := E.d 2 _ 34 rfl rfl rfl
       exact res_ok (x_extract rfl (e34) rfl) (goes_still rfl rfl hM)
      ·
       refine op2 (a := 1) rfl fun e w ρ (hM : Mem _ w) E => ?_
       have e34 : ρ (.tmp 34) = .tuple #[(e 0).2, .int .i64 (putE s)] := E.d 2 _ 34 rfl rfl rfl
       exact res_ok (x_extract rfl (e34) rfl) (goes_still rfl rfl hM)
      · exact op2 (a := 1) rfl fun e w ρ (hM : Mem _ w) E => res_ok (x_assign rfl (E.d 3 _ 37 rfl rfl rfl)) (goes_still rfl rfl hM)
      · exact op2 (a := 1) rfl fun e w ρ (hM : Mem _ w) E => res_ok (x_assign rfl (E.d 4 _ 38 rfl rfl rfl)) (goes_still rfl rfl hM)
     ·
      intro e a4 w4 hz4 hd hG hO hM
      have hd4 := hd.trans hd3
      have g2_4 := (hO 2 rfl).trans g2_3
      have g3_4 := (hO 3 rfl).trans g3_3
      have g4_4 := (hO 4 rfl).trans g4_3
      have g5_4 := (hO 5 rfl).trans g5_3
      have g8_4 := (hO 8 rfl).trans g8_3
      have g9_4 := (hO 9 rfl).trans g9_3
      have g10_4 := (hO 10 rfl).trans g10_3
      have g11_4 : a4.tmps[11]? = some ((e 0).2) := hG 5 _ 11 rfl rfl
      have g12_4 : a4.tmps[12]? = some (.int .i64 (putE s)) := hG 6 _ 12 rfl rfl
      have hM4 : Mem (rowC 5 1 (e 0).2 (putB s).length ((putB s).map (.int .u8)) :: rowC 5 1 (.slice a2 ((putB r).length) c2) (putB r).length ((putB r).map (.int .u8)) :: boxC b1_1 (recCells s (.slice als s.cmd.legs.length cls) (.slice ats s.cmd.taxes.length cts)) :: boxC b1_0 (recCells r (.slice al r.cmd.legs.length cl) (.slice at1 r.cmd.taxes.length ct)) :: D :: R) w4 := hM
      clear hM hG hO hd
      clear hz3 hd3 hM3 g2_3 g3_3 g4_3 g5_3 g8_3 g9_3 g10_3
      generalize (e 0).2 = v4_0 at *
      obtain ⟨a3, c3, rfl, hrwB, hlcB, hcmB, hacB⟩ := (hM4.owns 0 rfl).row
      refine then_n ?_
      refine wp_seq ?_
      refine wp_seq ?_
      obtain ⟨z5_2, hz5_2⟩ : ∃ z : Bool, z = (!decide ((putE r) = 0)) := ⟨_, rfl⟩
      refine region_seq 94 (fun zz e => (#[.int .i64 (putE r), .bool (!decide ((putE r) = 0)), .bool z5_2, (gd z5_2 false (.int .i64 (putE s))), (gd z5_2 false (.bool (!decide ((putE s) = 0)))), .bool (z5_2 || (!decide ((putE s) = 0)))] : Array Value).getD zz undef) (fun k e w => Mem (List.getD [rowC 5 1 (.slice a3 ((putB s).length) c3) (putB s).length ((putB s).map (.int .u8)) :: rowC 5 1 (.slice a2 ((putB r).length) c2) (putB r).length ((putB r).map (.int .u8)) :: boxC b1_1 (recCells s (.slice als s.cmd.legs.length cls) (.slice ats s.cmd.taxes.length cts)) :: boxC b1_0 (recCells r (.slice al r.cmd.legs.length cl) (.slice at1 r.cmd.taxes.length ct)) :: D :: R] k []) w) (fun _ => (0, undef)) [] [0, 0, 0, 0, 0, 0] (fun _ _ => false) hz4 (by kernel_rfl) (by kernel_rfl) (by kernel_rfl) ?_ (show Mem _ _ from hM4) ?_ ?_
      · exact ⟨fun _ _ _ => rfl, fun _ _ _ => rfl, fun _ _ _ => rfl, fun _ _ _ => rfl, fun _ _ _ => rfl, fun _ _ _ => rfl, trivial⟩
      ·
       refine ⟨?_, ?_, ?_, ?_, ?_, ?_, trivial⟩
       · exact op2 (a := 0) rfl fun e w ρ (hM : Mem _ w) E => res_ok (x_move rfl (E.o 10 _ rfl g10_4)) (goes_still rfl rfl hM)
       · exact op2 (a := 0) rfl fun e w ρ (hM : Mem _ w) E => res_ok (x_neq rfl (E.d 0 _ 39 rfl rfl rfl) (E.c _) rfl) (goes_still rfl rfl hM)
       · exact op2 (a := 0) rfl fun e w ρ (hM : Mem _ w) E => res_ok (x_move rfl (E.d 1 _ 40 rfl rfl rfl)) (goes_still rfl (congrArg Value.bool hz5_2.symm) hM)
       · exact op3 (a := 0) z5_2 rfl (fun _ => rfl) rfl (fun hC _ => (gd_no hC).symm) fun hC e w ρ (hM : Mem _ w) E => res_ok (x_move rfl (E.o 12 _ rfl g12_4)) (goes_still rfl (gd_yes hC).symm hM)
       · exact op3 (a := 0) z5_2 rfl (fun _ => rfl) rfl (fun hC _ => (gd_no hC).symm) fun hC e w ρ (hM : Mem _ w) E => res_ok (x_neq rfl ((E.d 3 _ 42 rfl rfl rfl).trans (gd_yes hC)) (E.c _) rfl) (goes_still rfl (gd_yes hC).symm hM)
       · exact op2 (a := 0) rfl fun e w ρ (hM : Mem _ w) E => res_ok (x_pickOr rfl (E.d 2 _ 41 rfl rfl rfl) (fun hC => ((E.d 4 _ 43 rfl rfl rfl).trans (gd_f hC))) (E.c _)) (goes_still rfl rfl hM)
      ·
       intro e a5 w5 hz5 hd hG hO hM
       have hd5 := hd.trans hd4
       have g2_5 := (hO 2 rfl).trans g2_4
       have g3_5 := (hO 3 rfl).trans g3_4
       have g4_5 := (hO 4 rfl).trans g4_4
       have g5_5 := (hO 5 rfl).trans g5_4
       have g8_5 := (hO 8 rfl).trans g8_4
       have g9_5 := (hO 9 rfl).trans g9_4
       have g11_5 := (hO 11 rfl).trans g11_4
       have g44_5 : a5.tmps[44]? = some (.bool (z5_2 || (!decide ((putE s) = 0)))) := hG 5 _ 44 rfl rfl
       have hM5 : Mem (rowC 5 1 (.slice a3 ((putB s).length) c3) (putB s).length ((putB s).map (.int .u8)) :: rowC 5 1 (.slice a2 ((putB r).length) c2) (putB r).length ((putB r).map (.int .u8)) :: boxC b1_1 (recCells s (.slice als s.cmd.legs.length cls) (.slice ats s.cmd.taxes.length cts)) :: boxC b1_0 (recCells r (.slice al r.cmd.legs.length cl) (.slice at1 r.cmd.taxes.length ct)) :: D :: R) w5 := hM
       clear hM hG hO hd
       clear hz4 hd4 hM4 g2_4 g3_4 g4_4 g5_4 g8_4 g9_4 g10_4 g11_4 g12_4
       refine then_n ?_
       cases hc2 : z5_2 || (!decide ((putE s) = 0))
       ·
        refine cond_f (g44_5.trans (by rw [hc2])) ?_
        have hgp := hc2
        rw [hz5_2, Bool.or_eq_false_iff, Bool.not_eq_false', Bool.not_eq_false', decide_eq_true_eq, decide_eq_true_eq] at hgp
        obtain ⟨hE, hEs⟩ := hgp
        have hpp := put_pos hi hE
        have hps := put_small hi hgr
        refine wp_skip ?_
        refine then_n ?_
        refine wp_seq ?_
        refine wp_seq ?_
        refine region_draw 94 (fun zz e => (#[.slice a2 ((putB r).length) c2, .string (ofBytes (putB r)), .slice a3 ((putB s).length) c3, .string (ofBytes (putB s)), .bool (decide ((ofBytes (putB r)) = (ofBytes (putB s)))), .agg (recCells r (.slice al r.cmd.legs.length cl) (.slice at1 r.cmd.taxes.length ct)), .agg (recCells s (.slice als s.cmd.legs.length cls) (.slice ats s.cmd.taxes.length cts)), .bool (sameW r s), .bool false] : Array Value).getD zz undef) (fun k e w => Mem (List.getD [rowC 5 1 (.slice a3 ((putB s).length) c3) (putB s).length ((putB s).map (.int .u8)) :: rowC 5 1 (.slice a2 ((putB r).length) c2) (putB r).length ((putB r).map (.int .u8)) :: boxC b1_1 (recCells s (.slice als s.cmd.legs.length cls) (.slice ats s.cmd.taxes.length cts)) :: boxC b1_0 (recCells r (.slice al r.cmd.legs.length cl) (.slice at1 r.cmd.taxes.length ct)) :: D :: R] k []) w) (fun _ => (0, undef)) [] [] [0, 0, 0, 0, 0, 0, 0, 0, 0] [0, 0, 0, 0, 0, 0, 0, 0, 0] (fun _ _ => false) hz5 (by kernel_rfl) (by kernel_rfl) (by kernel_rfl) (by kernel_rfl) (by kernel_rfl) ?_ (show Mem _ _ from hM5.drew) ?_ ?_
        · exact ⟨fun _ _ _ => rfl, fun _ _ _ => rfl, fun _ _ _ => rfl, fun _ _ _ => rfl, fun _ _ _ => rfl, fun _ _ _ => rfl, fun _ _ _ => rfl, fun _ _ _ => rfl, fun _ _ _ => rfl, trivial⟩
        ·
         refine ⟨?_, ?_, ?_, ?_, ?_, ?_, ?_, ?_, ?_, trivial⟩
         · exact op2 (a := 0) rfl fun e w ρ (hM : Mem _ w) E => res_ok (x_move rfl (E.o 9 _ rfl g9_5)) (goes_still rfl rfl hM)
         ·
          refine op2 (a := 0) rfl fun e w ρ (hM : Mem _ w) E => ?_
          have e46 : ρ (.tmp 46) = .slice a2 ((putB r).length) c2 := E.d 0 _ 46 rfl rfl rfl
          exact res_ok (x_convert rfl (e46) (run_ofBytes (xs := putB r) Try.underlying47 Try.underlying5 Try.underlying9 rfl (rd_row.row hM 1 rfl))) (goes_still rfl rfl hM)
         · exact op2 (a := 0) rfl fun e w ρ (hM : Mem _ w) E => res_ok (x_move rfl (E.o 11 _ rfl g11_5)) (goes_still rfl rfl hM)
         ·
          refine op2 (a := 0) rfl fun e w ρ (hM : Mem _ w) E => ?_
          have e48 : ρ (.tmp 48) = .slice a3 ((putB s).length) c3 := E.d 2 _ 48 rfl rfl rfl
          exact res_ok (x_convert rfl (e48) (run_ofBytes (xs := putB s) Try.underlying47 Try.underlying5 Try.underlying9 rfl (rd_row.row hM 0 rfl))) (goes_still rfl rfl hM)
         · exact op2 (a := 0) rfl fun e w ρ (hM : Mem _ w) E => res_ok (x_eqS rfl (E.d 1 _ 47 rfl rfl rfl) (E.d 3 _ 49 rfl rfl rfl) rfl) (goes_still rfl rfl hM)
         · exact op2 (a := 0) rfl fun e w ρ (hM : Mem _ w) E => res_ok (x_loads rfl (E.o 4 _ rfl g4_5) (by kernel_rfl) (load_part (hM.box 3 rfl) [.int .u8 r.kind, .int .u8 r.cmd.kind, .int .u8 r.cmd.tick.c, .int .u64 r.cmd.tick.r, .int .u8 r.cmd.at_, .string r.cmd.name, .slice al r.cmd.legs.length cl, .int .i64 r.cmd.fare, .slice at1 r.cmd.taxes.length ct, .int .i64 r.cmd.penalty, .int .i64 r.cmd.amount, .int .u8 r.frm, .int .u64 r.number, .int .u8 r.msg.kind, .int .u8 r.msg.tick.c, .int .u64 r.msg.tick.r, .int .u8 r.msg.at_, .int .u8 r.msg.leg.c, .int .u16 r.msg.leg.f, .int .u32 r.msg.leg.x, .int .i64 r.msg.value, .int .u8 r.msg.status, .int .u32 r.msg.nonce, .int .i64 r.msg.amount, .int .i64 r.msg.code] rfl (Nat.le_of_ble_eq_true rfl) rfl)) (goes_still rfl rfl hM)
         · exact op2 (a := 0) rfl fun e w ρ (hM : Mem _ w) E => res_ok (x_loads rfl (E.o 5 _ rfl g5_5) (by kernel_rfl) (load_part (hM.box 2 rfl) [.int .u8 s.kind, .int .u8 s.cmd.kind, .int .u8 s.cmd.tick.c, .int .u64 s.cmd.tick.r, .int .u8 s.cmd.at_, .string s.cmd.name, .slice als s.cmd.legs.length cls, .int .i64 s.cmd.fare, .slice ats s.cmd.taxes.length cts, .int .i64 s.cmd.penalty, .int .i64 s.cmd.amount, .int .u8 s.frm, .int .u64 s.number, .int .u8 s.msg.kind, .int .u8 s.msg.tick.c, .int .u64 s.msg.tick.r, .int .u8 s.msg.at_, .int .u8 s.msg.leg.c, .int .u16 s.msg.leg.f, .int .u32 s.msg.leg.x, .int .i64 s.msg.value, .int .u8 s.msg.status, .int .u32 s.msg.nonce, .int .i64 s.msg.amount, .int .i64 s.msg.code] rfl (Nat.le_of_ble_eq_true rfl) rfl)) (goes_still rfl rfl hM)
         ·
          refine op2 (a := 0) rfl fun e w ρ (hM : Mem _ w) E => ?_
          have e51 : ρ (.tmp 51) = .agg (recCells r (.slice al r.cmd.legs.length cl) (.slice at1 r.cmd.taxes.length ct)) := E.d 5 _ 51 rfl rfl rfl
          have e52 : ρ (.tmp 52) = .agg (recCells s (.slice als s.cmd.legs.length cls) (.slice ats s.cmd.taxes.length cts)) := E.d 6 _ 52 rfl rfl rfl
          refine res_in (x_call (args := #[.agg (recCells r (.slice al r.cmd.legs.length cl) (.slice at1 r.cmd.taxes.length ct)), .agg (recCells s (.slice als s.cmd.legs.length cls) (.slice ats s.cmd.taxes.length cts))]) rfl rfl (E.f _) (by simp [e51, e52]) (by kernel_rfl)) ?_
          refine (rsame_at r s al at1 als ats cl ct cls cts _ _ hM (rdM rl 4 rfl) (rdM rt 4 rfl) ⟨hw.legs, hw.taxes⟩ (rdM sl 4 rfl) (rdM st 4 rfl) ⟨hv.legs, hv.taxes⟩).mono ?_
          rintro e' w' ⟨rfl, hm⟩
          exact ⟨_, rfl, goes_still rfl rfl (hm)⟩
         ·
          refine op2 (a := 0) rfl fun e w ρ (hM : Mem _ w) E => ?_
          have e50 : ρ (.tmp 50) = .bool (decide ((ofBytes (putB r)) = (ofBytes (putB s)))) := E.d 4 _ 50 rfl rfl rfl
          have e53 : ρ (.tmp 53) = .bool (sameW r s) := E.d 7 _ 53 rfl rfl rfl
          exact res_ok (x_neB Try.underlying4 rfl (e50) (e53) (by rw [same_bytes hi hj hE hEs]; simp)) (goes_still rfl rfl hM)
        ·
         intro e a6 w6 hz6 hd hG hO hM
         have hd6 := hd.trans hd5
         have g2_6 := (hO 2 rfl).trans g2_5
         have g3_6 := (hO 3 rfl).trans g3_5
         have g8_6 := (hO 8 rfl).trans g8_5
         have g9_6 := (hO 9 rfl).trans g9_5
         have g54_6 : a6.tmps[54]? = some (.bool false) := hG 8 _ 54 rfl rfl
         have hM6 : Mem (rowC 5 1 (.slice a3 ((putB s).length) c3) (putB s).length ((putB s).map (.int .u8)) :: rowC 5 1 (.slice a2 ((putB r).length) c2) (putB r).length ((putB r).map (.int .u8)) :: boxC b1_1 (recCells s (.slice als s.cmd.legs.length cls) (.slice ats s.cmd.taxes.length cts)) :: boxC b1_0 (recCells r (.slice al r.cmd.legs.length cl) (.slice at1 r.cmd.taxes.length ct)) :: D :: R) w6 := hM
         clear hM hG hO hd
         clear hz5 hd5 hM5 g2_5 g3_5 g4_5 g5_5 g8_5 g9_5 g11_5 g44_5
         refine then_n ?_
         refine cond_f g54_6 ?_
         refine wp_skip ?_
         refine then_n ?_
         refine seq_cut (fun aa ww => ∃ xx : Unit, (fun xx aa ww => aa.tmps.size = 94 ∧ aa.defers = [] ∧ aa.tmps[3]? = some (.int .i64 cut) ∧ aa.tmps[9]? = some (.slice a2 ((putB r).length) c2) ∧ Mem (rowC 5 1 (.slice a2 (putB r).length c2) (putB r).length ((putB r).map (.int .u8)) :: D :: R) ww) xx aa ww) ?_ ?_
         ·
          refine wp_seq ?_
          refine region_seq 94 (fun zz e => (#[.slice ab bh.length cb, .int .i64 (bh.length : Int), .bool (decide ((bh.length : Int) > 0))] : Array Value).getD zz undef) (fun k e w => Mem (List.getD [rowC 5 1 (.slice a3 ((putB s).length) c3) (putB s).length ((putB s).map (.int .u8)) :: rowC 5 1 (.slice a2 ((putB r).length) c2) (putB r).length ((putB r).map (.int .u8)) :: boxC b1_1 (recCells s (.slice als s.cmd.legs.length cls) (.slice ats s.cmd.taxes.length cts)) :: boxC b1_0 (recCells r (.slice al r.cmd.legs.length cl) (.slice at1 r.cmd.taxes.length ct)) :: D :: R] k []) w) (fun _ => (0, undef)) [] [0, 0, 0] (fun _ _ => false) hz6 (by kernel_rfl) (by kernel_rfl) (by kernel_rfl) ?_ (show Mem _ _ from hM6) ?_ ?_
          · exact ⟨fun _ _ _ => rfl, fun _ _ _ => rfl, fun _ _ _ => rfl, trivial⟩
          ·
           refine ⟨?_, ?_, ?_, trivial⟩
           · exact op2 (a := 0) rfl fun e w ρ (hM : Mem _ w) E => res_ok (x_move rfl (E.o 2 _ rfl g2_6)) (goes_still rfl rfl hM)
           ·
            refine op2 (a := 0) rfl fun e w ρ (hM : Mem _ w) E => ?_
            have e55 : ρ (.tmp 55) = .slice ab bh.length cb := E.d 0 _ 55 rfl rfl rfl
            exact res_ok (x_len (n := 1) rfl rfl rfl rfl (e55) (by kernel_rfl)) (goes_still rfl rfl hM)
           · exact op2 (a := 0) rfl fun e w ρ (hM : Mem _ w) E => res_ok (x_gtr rfl (E.d 1 _ 56 rfl rfl rfl) (E.c _) rfl) (goes_still rfl rfl hM)
          ·
           intro e a7 w7 hz7 hd hG hO hM
           have hd7 := hd.trans hd6
           have g2_7 := (hO 2 rfl).trans g2_6
           have g3_7 := (hO 3 rfl).trans g3_6
           have g8_7 := (hO 8 rfl).trans g8_6
           have g9_7 := (hO 9 rfl).trans g9_6
           have g57_7 : a7.tmps[57]? = some (.bool (decide ((bh.length : Int) > 0))) := hG 2 _ 57 rfl rfl
           have hM7 : Mem (rowC 5 1 (.slice a3 ((putB s).length) c3) (putB s).length ((putB s).map (.int .u8)) :: rowC 5 1 (.slice a2 ((putB r).length) c2) (putB r).length ((putB r).map (.int .u8)) :: boxC b1_1 (recCells s (.slice als s.cmd.legs.length cls) (.slice ats s.cmd.taxes.length cts)) :: boxC b1_0 (recCells r (.slice al r.cmd.legs.length cl) (.slice at1 r.cmd.taxes.length ct)) :: D :: R) w7 := hM
           clear hM hG hO hd
           clear hz6 hd6 hM6 g2_6 g3_6 g8_6 g9_6 g54_6
           refine then_n ?_
           by_cases hc3 : (bh.length : Int) > 0
           ·
            refine cond_t (g57_7.trans (by rw [decide_eq_true hc3])) ?_
            have hbp : 0 < bh.length := by omega
            obtain ⟨ad, rfl⟩ := row_some (rd_row.row hM7 1 rfl : Row _ a2 ((putB r).map (.int .u8))) (by rw [List.length_map]; omega)
            obtain ⟨adb, rfl⟩ := row_some (rb.row hM7 4 rfl) (by rw [List.length_map]; exact hbp)
            refine wp_seq ?_
            refine region_seq 94 (fun zz e => (#[.slice (some ⟨(e 0).1, 0, none⟩) 0 0, .slice (some ad) ((putB r).length) c2, (e 1).2, .slice (some adb) bh.length cb, (e 2).2, .tuple #[.agg (recCells rec0 (prt (e 3).2 0) (prt (e 3).2 1)), .int .i64 140], .tuple #[.agg (recCells rec0 (prt (e 3).2 0) (prt (e 3).2 1)), .int .i64 140], .agg (recCells rec0 (prt (e 3).2 0) (prt (e 3).2 1)), .int .i64 140, .pointer (some ⟨(e 4).1, 0, none⟩), undef, .int .i64 140] : Array Value).getD zz undef) (fun k e w => Mem (List.getD [rowC 5 1 (.slice a3 ((putB s).length) c3) (putB s).length ((putB s).map (.int .u8)) :: rowC 5 1 (.slice (some ad) ((putB r).length) c2) (putB r).length ((putB r).map (.int .u8)) :: boxC b1_1 (recCells s (.slice als s.cmd.legs.length cls) (.slice ats s.cmd.taxes.length cts)) :: boxC b1_0 (recCells r (.slice al r.cmd.legs.length cl) (.slice at1 r.cmd.taxes.length ct)) :: D :: R, rowC 5 1 (.slice (some ⟨(e 0).1, 0, none⟩) 0 0) 0 [] :: rowC 5 1 (.slice a3 ((putB s).length) c3) (putB s).length ((putB s).map (.int .u8)) :: rowC 5 1 (.slice (some ad) ((putB r).length) c2) (putB r).length ((putB r).map (.int .u8)) :: boxC b1_1 (recCells s (.slice als s.cmd.legs.length cls) (.slice ats s.cmd.taxes.length cts)) :: boxC b1_0 (recCells r (.slice al r.cmd.legs.length cl) (.slice at1 r.cmd.taxes.length ct)) :: D :: R, rowC 5 1 (e 1).2 (putB r).length ((putB r).map (.int .u8)) :: rowC 5 1 (.slice a3 ((putB s).length) c3) (putB s).length ((putB s).map (.int .u8)) :: rowC 5 1 (.slice (some ad) ((putB r).length) c2) (putB r).length ((putB r).map (.int .u8)) :: boxC b1_1 (recCells s (.slice als s.cmd.legs.length cls) (.slice ats s.cmd.taxes.length cts)) :: boxC b1_0 (recCells r (.slice al r.cmd.legs.length cl) (.slice at1 r.cmd.taxes.length ct)) :: D :: R, rowC 5 1 (e 2).2 (putB r ++ bh).length ((putB r ++ bh).map (.int .u8)) :: rowC 5 1 (.slice a3 ((putB s).length) c3) (putB s).length ((putB s).map (.int .u8)) :: rowC 5 1 (.slice (some ad) ((putB r).length) c2) (putB r).length ((putB r).map (.int .u8)) :: boxC b1_1 (recCells s (.slice als s.cmd.legs.length cls) (.slice ats s.cmd.taxes.length cts)) :: boxC b1_0 (recCells r (.slice al r.cmd.legs.length cl) (.slice at1 r.cmd.taxes.length ct)) :: D :: R, rowC 36 3 (prt (e 3).2 0) rec0.cmd.legs.length (cellsL legE rec0.cmd.legs) :: rowC 58 2 (prt (e 3).2 1) rec0.cmd.taxes.length (cellsL taxE rec0.cmd.taxes) :: rowC 5 1 (e 2).2 (putB r ++ bh).length ((putB r ++ bh).map (.int .u8)) :: rowC 5 1 (.slice a3 ((putB s).length) c3) (putB s).length ((putB s).map (.int .u8)) :: rowC 5 1 (.slice (some ad) ((putB r).length) c2) (putB r).length ((putB r).map (.int .u8)) :: boxC b1_1 (recCells s (.slice als s.cmd.legs.length cls) (.slice ats s.cmd.taxes.length cts)) :: boxC b1_0 (recCells r (.slice al r.cmd.legs.length cl) (.slice at1 r.cmd.taxes.length ct)) :: D :: R, boxC ((e 4).1) #[.int .u8 0, .int .u8 0, .int .u8 0, .int .u64 0, .int .u8 0, .string ByteArray.empty, .slice none 0 0, .int .i64 0, .slice none 0 0, .int .i64 0, .int .i64 0, .int .u8 0, .int .u64 0, .int .u8 0, .int .u8 0, .int .u64 0, .int .u8 0, .int .u8 0, .int .u16 0, .int .u32 0, .int .i64 0, .int .u8 0, .int .u32 0, .int .i64 0, .int .i64 0] :: rowC 36 3 (prt (e 3).2 0) rec0.cmd.legs.length (cellsL legE rec0.cmd.legs) :: rowC 58 2 (prt (e 3).2 1) rec0.cmd.taxes.length (cellsL taxE rec0.cmd.taxes) :: rowC 5 1 (e 2).2 (putB r ++ bh).length ((putB r ++ bh).map (.int .u8)) :: rowC 5 1 (.slice a3 ((putB s).length) c3) (putB s).length ((putB s).map (.int .u8)) :: rowC 5 1 (.slice (some ad) ((putB r).length) c2) (putB r).length ((putB r).map (.int .u8)) :: boxC b1_1 (recCells s (.slice als s.cmd.legs.length cls) (.slice ats s.cmd.taxes.length cts)) :: boxC b1_0 (recCells r (.slice al r.cmd.legs.length cl) (.slice at1 r.cmd.taxes.length ct)) :: D :: R, boxC ((e 4).1) (recCells rec0 (prt (e 3).2 0) (prt (e 3).2 1)) :: rowC 36 3 (prt (e 3).2 0) rec0.cmd.legs.length (cellsL legE rec0.cmd.legs) :: rowC 58 2 (prt (e 3).2 1) rec0.cmd.taxes.length (cellsL taxE rec0.cmd.taxes) :: rowC 5 1 (e 2).2 (putB r ++ bh).length ((putB r ++ bh).map (.int .u8)) :: rowC 5 1 (.slice a3 ((putB s).length) c3) (putB s).length ((putB s).map (.int .u8)) :: rowC 5 1 (.slice (some ad) ((putB r).length) c2) (putB r).length ((putB r).map (.int .u8)) :: boxC b1_1 (recCells s (.slice als s.cmd.legs.length cls) (.slice ats s.cmd.taxes.length cts)) :: boxC b1_0 (recCells r (.slice al r.cmd.legs.length cl) (.slice at1 r.cmd.taxes.length ct)) :: D :: R] k []) w) (fun _ => (0, undef)) [0, 2, 4, 5, 9, 10] [0, 1, 1, 2, 2, 3, 4, 4, 4, 4, 5, 6] (fun _ _ => false) hz7 (by kernel_rfl) (by kernel_rfl) (by kernel_rfl) ?_ (show Mem _ _ from hM7) ?_ ?_
            · exact ⟨fun e e' h => congrArg (fun x : Rv => (.slice (some ⟨x.1, 0, none⟩) 0 0 : Value)) (h 0 (by decide)), fun _ _ _ => rfl, fun e e' h => congrArg (fun x : Rv => (x.2 : Value)) (h 1 (by decide)), fun _ _ _ => rfl, fun e e' h => congrArg (fun x : Rv => (x.2 : Value)) (h 2 (by decide)), fun e e' h => congrArg (fun x : Rv => (.tuple #[.agg (recCells rec0 (prt x.2 0) (prt x.2 1)), .int .i64 140] : Value)) (h 3 (by decide)), fun e e' h => congrArg (fun x : Rv => (.tuple #[.agg (recCells rec0 (prt x.2 0) (prt x.2 1)), .int .i64 140] : Value)) (h 3 (by decide)), fun e e' h => congrArg (fun x : Rv => (.agg (recCells rec0 (prt x.2 0) (prt x.2 1)) : Value)) (h 3 (by decide)), fun _ _ _ => rfl, fun e e' h => congrArg (fun x : Rv => (.pointer (some ⟨x.1, 0, none⟩) : Value)) (h 4 (by decide)), fun _ _ _ => rfl, fun _ _ _ => rfl, trivial⟩
            ·
             refine ⟨?_, ?_, ?_, ?_, ?_, ?_, ?_, ?_, ?_, ?_, ?_, ?_, trivial⟩
             ·
              refine op2 (a := 0) rfl fun e w ρ (hM : Mem _ w) E => ?_
              have h := emptyRow hM 5 1
              refine res_ok (v := .slice (some ⟨w.heap.size, 0, none⟩) 0 0) (w' := w.alloc (.cells #[] 5)) (by simp [go_sem, execOp, Instr.buildSlice, Instr.fill, newRow]) (goes_tick rfl (w.heap.size, undef) rfl ?_)
              show Mem (rowC 5 1 (.slice (some ⟨(upd e 0 (w.heap.size, undef) 0).1, 0, none⟩) 0 0) 0 [] :: rowC 5 1 (.slice a3 ((putB s).length) c3) (putB s).length ((putB s).map (.int .u8)) :: rowC 5 1 (.slice (some ad) ((putB r).length) c2) (putB r).length ((putB r).map (.int .u8)) :: boxC b1_1 (recCells s (.slice als s.cmd.legs.length cls) (.slice ats s.cmd.taxes.length cts)) :: boxC b1_0 (recCells r (.slice al r.cmd.legs.length cl) (.slice at1 r.cmd.taxes.length ct)) :: D :: R) _
              exact h
             · exact op2 (a := 1) rfl fun e w ρ (hM : Mem _ w) E => res_ok (x_move rfl (E.o 9 _ rfl g9_7)) (goes_still rfl rfl hM)
             ·
              refine op2 (a := 1) rfl fun e w ρ (hM : Mem _ w) E => ?_
              have e59 : ρ (.tmp 59) = .slice (some ⟨(e 0).1, 0, none⟩) 0 0 := E.d 0 _ 59 rfl rfl rfl
              have e60 : ρ (.tmp 60) = .slice (some ad) ((putB r).length) c2 := E.d 1 _ 60 rfl rfl rfl
              obtain ⟨v', w', hr, hm⟩ := Mem.append (P := Try.prog) hM 0 rfl 47 1 (.int .u8 0) Try.underlying47 (by kernel_rfl) rfl (by decide) ad (putB r).length c2 ((putB r).map (.int .u8)) (rd_row.row hM 2 rfl) (by simp) one_u8 (by unfold maxLen; omega) (by omega)
              rw [Nat.zero_add, List.nil_append] at hm
              exact res_ok (x_append rfl rfl rfl rfl (e59) (e60) hr) (goes_tick rfl (0, v') rfl hm)
             · exact op2 (a := 2) rfl fun e w ρ (hM : Mem _ w) E => res_ok (x_move rfl (E.o 2 _ rfl g2_7)) (goes_still rfl rfl hM)
             ·
              refine op2 (a := 2) rfl fun e w ρ (hM : Mem _ w) E => ?_
              have e61 : ρ (.tmp 61) = (e 1).2 := E.d 2 _ 61 rfl rfl rfl
              have e62 : ρ (.tmp 62) = .slice (some adb) bh.length cb := E.d 3 _ 62 rfl rfl rfl
              obtain ⟨v', w', hr, hm⟩ := Mem.append (P := Try.prog) hM 0 rfl 47 1 (.int .u8 0) Try.underlying47 (by kernel_rfl) rfl (by decide) adb bh.length cb (bh.map (.int .u8)) (rb.row hM 5 rfl) (by simp) one_u8 (by unfold maxLen; omega) (by omega)
              rw [← List.map_append, ← List.length_append] at hm
              exact res_ok (x_append rfl rfl rfl rfl (e61) (e62) hr) (goes_tick rfl (0, v') rfl hm)
             ·
              refine op2 (a := 3) rfl fun e w ρ (hM : Mem _ w) E => ?_
              have e63 : ρ (.tmp 63) = (e 2).2 := E.d 4 _ 63 rfl rfl rfl
              refine res_in (x_call (args := #[(e 2).2]) rfl rfl (E.f _) (by simp [e63]) (by kernel_rfl)) ?_
              obtain ⟨av, cv, hev, -, hlv, -, hav⟩ := (hM.owns 0 rfl).row
              rw [hev]
              refine (get_at av cv (putB r ++ bh) _ _ _ (hM.front 0 rfl) (rdv hev) hlv hav ((put_by hi).app hin) (by rw [List.length_append]; have := put_small hi hgr; omega)).mono ?_
              rintro e' w' ⟨vl', vt', he, hm⟩
              rw [(apart_behind hi hE hbp).1, (apart_behind hi hE hbp).2] at he
              rw [(apart_behind hi hE hbp).2] at hm
              subst he
              exact ⟨_, rfl, goes_tick rfl (0, .agg #[vl', vt']) rfl hm⟩
             · exact op2 (a := 4) rfl fun e w ρ (hM : Mem _ w) E => res_ok (x_move rfl (E.d 5 _ 64 rfl rfl rfl)) (goes_still rfl rfl hM)
             ·
              refine op2 (a := 4) rfl fun e w ρ (hM : Mem _ w) E => ?_
              have e58 : ρ (.tmp 58) = .tuple #[.agg (recCells rec0 (prt (e 3).2 0) (prt (e 3).2 1)), .int .i64 140] := E.d 6 _ 58 rfl rfl rfl
              exact res_ok (x_extract rfl (e58) rfl) (goes_still rfl rfl hM)
             ·
              refine op2 (a := 4) rfl fun e w ρ (hM : Mem _ w) E => ?_
              have e58 : ρ (.tmp 58) = .tuple #[.agg (recCells rec0 (prt (e 3).2 0) (prt (e 3).2 1)), .int .i64 140] := E.d 6 _ 58 rfl rfl rfl
              exact res_ok (x_extract rfl (e58) rfl) (goes_still rfl rfl hM)
             ·
              refine op2 (a := 4) rfl fun e w ρ (hM : Mem _ w) E => ?_
              exact res_ok (x_alloc (z := .agg #[.int .u8 0, .int .u8 0, .int .u8 0, .int .u64 0, .int .u8 0, .string ByteArray.empty, .slice none 0 0, .int .i64 0, .slice none 0 0, .int .i64 0, .int .i64 0, .int .u8 0, .int .u64 0, .int .u8 0, .int .u8 0, .int .u64 0, .int .u8 0, .int .u8 0, .int .u16 0, .int .u32 0, .int .i64 0, .int .u8 0, .int .u32 0, .int .i64 0, .int .i64 0]) rfl (by kernel_rfl)) (goes_tick rfl (w.heap.size, undef) rfl (hM.alloc _ _))
             ·
              refine op2 (a := 5) rfl fun e w ρ (hM : Mem _ w) E => ?_
              have e13 := E.d 9 _ 13 rfl rfl rfl
              have e65 := E.d 7 _ 65 rfl rfl rfl
              have hrc0 := row_cell (hM.owns 1 rfl)
              have hrc1 := row_cell (hM.owns 2 rfl)
              obtain ⟨w', hr, hm⟩ := Mem.store (P := Try.prog) hM 0 rfl 44 0 (.agg (recCells rec0 (prt (e 3).2 0) (prt (e 3).2 1))) [.int .u8 rec0.kind, .int .u8 rec0.cmd.kind, .int .u8 rec0.cmd.tick.c, .int .u64 rec0.cmd.tick.r, .int .u8 rec0.cmd.at_, .string rec0.cmd.name, (prt (e 3).2 0), .int .i64 rec0.cmd.fare, (prt (e 3).2 1), .int .i64 rec0.cmd.penalty, .int .i64 rec0.cmd.amount, .int .u8 rec0.frm, .int .u64 rec0.number, .int .u8 rec0.msg.kind, .int .u8 rec0.msg.tick.c, .int .u64 rec0.msg.tick.r, .int .u8 rec0.msg.at_, .int .u8 rec0.msg.leg.c, .int .u16 rec0.msg.leg.f, .int .u32 rec0.msg.leg.x, .int .i64 rec0.msg.value, .int .u8 rec0.msg.status, .int .u32 rec0.msg.nonce, .int .i64 rec0.msg.amount, .int .i64 rec0.msg.code] rfl (by kernel_rfl) (Nat.le_of_ble_eq_true rfl) (by simp only [List.all_cons, List.all_nil, Bool.and_true, hrc0.2, hrc1.2]; rfl)
              exact res_st (x_store rfl (e13) (e65) hr) (goes_tick rfl (0, undef) rfl hm)
             · exact op2 (a := 6) rfl fun e w ρ (hM : Mem _ w) E => res_ok (x_assign rfl (E.d 8 _ 66 rfl rfl rfl)) (goes_still rfl rfl hM)
            ·
             intro e a8 w8 hz8 hd hG hO hM
             have hd8 := hd.trans hd7
             have g3_8 := (hO 3 rfl).trans g3_7
             have g8_8 := (hO 8 rfl).trans g8_7
             have g9_8 := (hO 9 rfl).trans g9_7
             have g14_8 : a8.tmps[14]? = some (.int .i64 140) := hG 11 _ 14 rfl rfl
             have hM8 : Mem (boxC ((e 4).1) (recCells rec0 (prt (e 3).2 0) (prt (e 3).2 1)) :: rowC 36 3 (prt (e 3).2 0) rec0.cmd.legs.length (cellsL legE rec0.cmd.legs) :: rowC 58 2 (prt (e 3).2 1) rec0.cmd.taxes.length (cellsL taxE rec0.cmd.taxes) :: rowC 5 1 (e 2).2 (putB r ++ bh).length ((putB r ++ bh).map (.int .u8)) :: rowC 5 1 (.slice a3 ((putB s).length) c3) (putB s).length ((putB s).map (.int .u8)) :: rowC 5 1 (.slice (some ad) ((putB r).length) c2) (putB r).length ((putB r).map (.int .u8)) :: boxC b1_1 (recCells s (.slice als s.cmd.legs.length cls) (.slice ats s.cmd.taxes.length cts)) :: boxC b1_0 (recCells r (.slice al r.cmd.legs.length cl) (.slice at1 r.cmd.taxes.length ct)) :: D :: R) w8 := hM
             clear hM hG hO hd
             clear hz7 hd7 hM7 g2_7 g3_7 g8_7 g9_7 g57_7
             generalize (e 4).1 = b8_4 at *
             generalize (e 2).2 = v8_2 at *
             generalize (e 3).2 = v8_3 at *
             refine then_n ?_
             refine wp_seq ?_
             refine region_seq 94 (fun zz e => (#[.int .i64 140, .bool false] : Array Value).getD zz undef) (fun k e w => Mem (List.getD [boxC b8_4 (recCells rec0 (prt v8_3 0) (prt v8_3 1)) :: rowC 36 3 (prt v8_3 0) rec0.cmd.legs.length (cellsL legE rec0.cmd.legs) :: rowC 58 2 (prt v8_3 1) rec0.cmd.taxes.length (cellsL taxE rec0.cmd.taxes) :: rowC 5 1 v8_2 (putB r ++ bh).length ((putB r ++ bh).map (.int .u8)) :: rowC 5 1 (.slice a3 ((putB s).length) c3) (putB s).length ((putB s).map (.int .u8)) :: rowC 5 1 (.slice (some ad) ((putB r).length) c2) (putB r).length ((putB r).map (.int .u8)) :: boxC b1_1 (recCells s (.slice als s.cmd.legs.length cls) (.slice ats s.cmd.taxes.length cts)) :: boxC b1_0 (recCells r (.slice al r.cmd.legs.length cl) (.slice at1 r.cmd.taxes.length ct)) :: D :: R] k []) w) (fun _ => (0, undef)) [] [0, 0] (fun _ _ => false) hz8 (by kernel_rfl) (by kernel_rfl) (by kernel_rfl) ?_ (show Mem _ _ from hM8) ?_ ?_
             · exact ⟨fun _ _ _ => rfl, fun _ _ _ => rfl, trivial⟩
             ·
              refine ⟨?_, ?_, trivial⟩
              · exact op2 (a := 0) rfl fun e w ρ (hM : Mem _ w) E => res_ok (x_move rfl (E.o 14 _ rfl g14_8)) (goes_still rfl rfl hM)
              · exact op2 (a := 0) rfl fun e w ρ (hM : Mem _ w) E => res_ok (x_neq rfl (E.d 0 _ 67 rfl rfl rfl) (E.c _) (by decide)) (goes_still rfl rfl hM)
             ·
              intro e a9 w9 hz9 hd hG hO hM
              have hd9 := hd.trans hd8
              have g3_9 := (hO 3 rfl).trans g3_8
              have g8_9 := (hO 8 rfl).trans g8_8
              have g9_9 := (hO 9 rfl).trans g9_8
              have g68_9 : a9.tmps[68]? = some (.bool false) := hG 1 _ 68 rfl rfl
              have hM9 : Mem (boxC b8_4 (recCells rec0 (prt v8_3 0) (prt v8_3 1)) :: rowC 36 3 (prt v8_3 0) rec0.cmd.legs.length (cellsL legE rec0.cmd.legs) :: rowC 58 2 (prt v8_3 1) rec0.cmd.taxes.length (cellsL taxE rec0.cmd.taxes) :: rowC 5 1 v8_2 (putB r ++ bh).length ((putB r ++ bh).map (.int .u8)) :: rowC 5 1 (.slice a3 ((putB s).length) c3) (putB s).length ((putB s).map (.int .u8)) :: rowC 5 1 (.slice (some ad) ((putB r).length) c2) (putB r).length ((putB r).map (.int .u8)) :: boxC b1_1 (recCells s (.slice als s.cmd.legs.length cls) (.slice ats s.cmd.taxes.length cts)) :: boxC b1_0 (recCells r (.slice al r.cmd.legs.length cl) (.slice at1 r.cmd.taxes.length ct)) :: D :: R) w9 := hM
              clear hM hG hO hd
              clear hz8 hd8 hM8 g3_8 g8_8 g9_8 g14_8
              refine then_n ?_
              refine cond_f g68_9 ?_
              refine wp_skip ?_
              refine then_n ?_
              exact ⟨(), ⟨hz9, hd9, g3_9, (by have h := g9_9; exact h.trans (by congr 2 <;> first | rfl | omega)), ((((((((((hM9.erase 7 rfl).erase 6 rfl).erase 4 rfl).erase 3 rfl).erase 2 rfl).erase 1 rfl).erase 0 rfl).front 1 rfl).front 1 rfl))⟩⟩
           ·
            refine cond_f (g57_7.trans (by rw [decide_eq_false hc3])) ?_
            refine wp_skip ?_
            refine then_n ?_
            exact ⟨(), ⟨hz7, hd7, g3_7, g9_7, ((((((hM7.erase 3 rfl).erase 2 rfl).erase 0 rfl).front 1 rfl).front 1 rfl))⟩⟩
         ·
          clear hz6 hd6 hM6 g2_6 g3_6 g8_6 g9_6 g54_6
          rintro a10 w10 ⟨_, hI⟩
          try dsimp only at hI
          obtain ⟨hz10, hd10, g3_10, g9_10, hM10⟩ := hI
          refine wp_seq ?_
          refine wp_seq ?_
          have hpos : ¬ ((putB r).length : Int) = 0 := by omega
          refine region_seq 94 (fun zz e => (#[.slice a2 ((putB r).length) c2, .int .i64 ((putB r).length : Int), .bool false] : Array Value).getD zz undef) (fun k e w => Mem (List.getD [rowC 5 1 (.slice a2 (putB r).length c2) (putB r).length ((putB r).map (.int .u8)) :: D :: R] k []) w) (fun _ => (0, undef)) [] [0, 0, 0] (fun _ _ => false) hz10 (by kernel_rfl) (by kernel_rfl) (by kernel_rfl) ?_ (show Mem _ _ from hM10) ?_ ?_
          · exact ⟨fun _ _ _ => rfl, fun _ _ _ => rfl, fun _ _ _ => rfl, trivial⟩
          ·
           refine ⟨?_, ?_, ?_, trivial⟩
           · exact op2 (a := 0) rfl fun e w ρ (hM : Mem _ w) E => res_ok (x_move rfl (E.o 9 _ rfl g9_10)) (goes_still rfl rfl hM)
           ·
            refine op2 (a := 0) rfl fun e w ρ (hM : Mem _ w) E => ?_
            have e69 : ρ (.tmp 69) = .slice a2 ((putB r).length) c2 := E.d 0 _ 69 rfl rfl rfl
            exact res_ok (x_len (n := 1) rfl rfl rfl rfl (e69) (by kernel_rfl)) (goes_still rfl rfl hM)
           · exact op2 (a := 0) rfl fun e w ρ (hM : Mem _ w) E => res_ok (x_eql rfl (E.d 1 _ 70 rfl rfl rfl) (E.c _) (decide_eq_false hpos)) (goes_still rfl rfl hM)
          ·
           intro e a11 w11 hz11 hd hG hO hM
           have hd11 := hd.trans hd10
           have g3_11 := (hO 3 rfl).trans g3_10
           have g9_11 := (hO 9 rfl).trans g9_10
           have g71_11 : a11.tmps[71]? = some (.bool false) := hG 2 _ 71 rfl rfl
           have hM11 : Mem (rowC 5 1 (.slice a2 (putB r).length c2) (putB r).length ((putB r).map (.int .u8)) :: D :: R) w11 := hM
           clear hM hG hO hd
           clear hz10 hd10 hM10 g3_10 g9_10
           refine then_n ?_
           refine cond_f g71_11 ?_
           refine wp_skip ?_
           refine then_n ?_
           refine wp_seq ?_
           obtain ⟨q, hq⟩ : ∃ q : Int, q = Int.tmod cut ((putB r).length : Int) := ⟨_, rfl⟩
           have hq1 : -((putB r).length : Int) < q ∧ q < (putB r).length := by rw [hq]; exact tmod_range (by omega)
           refine region_seq 94 (fun zz e => (#[.int .i64 cut, .slice a2 ((putB r).length) c2, .int .i64 ((putB r).length : Int), .int .i64 q, .int .i64 q] : Array Value).getD zz undef) (fun k e w => Mem (List.getD [rowC 5 1 (.slice a2 (putB r).length c2) (putB r).length ((putB r).map (.int .u8)) :: D :: R] k []) w) (fun _ => (0, undef)) [] [0, 0, 0, 0, 0] (fun _ _ => false) hz11 (by kernel_rfl) (by kernel_rfl) (by kernel_rfl) ?_ (show Mem _ _ from hM11) ?_ ?_
           · exact ⟨fun _ _ _ => rfl, fun _ _ _ => rfl, fun _ _ _ => rfl, fun _ _ _ => rfl, fun _ _ _ => rfl, trivial⟩
           ·
            refine ⟨?_, ?_, ?_, ?_, ?_, trivial⟩
            · exact op2 (a := 0) rfl fun e w ρ (hM : Mem _ w) E => res_ok (x_move rfl (E.o 3 _ rfl g3_11)) (goes_still rfl rfl hM)
            · exact op2 (a := 0) rfl fun e w ρ (hM : Mem _ w) E => res_ok (x_move rfl (E.o 9 _ rfl g9_11)) (goes_still rfl rfl hM)
            ·
             refine op2 (a := 0) rfl fun e w ρ (hM : Mem _ w) E => ?_
             have e73 : ρ (.tmp 73) = .slice a2 ((putB r).length) c2 := E.d 1 _ 73 rfl rfl rfl
             exact res_ok (x_len (n := 1) rfl rfl rfl rfl (e73) (by kernel_rfl)) (goes_still rfl rfl hM)
            ·
             refine op2 (a := 0) rfl fun e w ρ (hM : Mem _ w) E => ?_
             have e72 : ρ (.tmp 72) = .int .i64 cut := E.d 0 _ 72 rfl rfl rfl
             have e74 : ρ (.tmp 74) = .int .i64 ((putB r).length : Int) := E.d 2 _ 74 rfl rfl rfl
             exact res_ok (x_rem rfl (e72) (e74) (by omega) hq.symm) (goes_still rfl rfl hM)
            · exact op2 (a := 0) rfl fun e w ρ (hM : Mem _ w) E => res_ok (x_assign rfl (E.d 3 _ 75 rfl rfl rfl)) (goes_still rfl rfl hM)
           ·
            intro e a12 w12 hz12 hd hG hO hM
            have hd12 := hd.trans hd11
            have g9_12 := (hO 9 rfl).trans g9_11
            have g15_12 : a12.tmps[15]? = some (.int .i64 q) := hG 4 _ 15 rfl rfl
            have hM12 : Mem (rowC 5 1 (.slice a2 (putB r).length c2) (putB r).length ((putB r).map (.int .u8)) :: D :: R) w12 := hM
            clear hM hG hO hd
            clear hz11 hd11 hM11 g3_11 g9_11 g71_11
            refine then_n ?_
            refine seq_cut (fun aa ww => ∃ xx : Nat, (fun k aa ww => aa.tmps.size = 94 ∧ aa.defers = [] ∧ aa.tmps[9]? = some (.slice a2 ((putB r).length) c2) ∧ aa.tmps[15]? = some (.int .i64 (k : Int)) ∧ Mem (rowC 5 1 (.slice a2 (putB r).length c2) (putB r).length ((putB r).map (.int .u8)) :: D :: R) ww ∧ k < (putB r).length) xx aa ww) ?_ ?_
            ·
             refine wp_seq ?_
             refine region_seq 94 (fun zz e => (#[.int .i64 q, .bool (decide (q < 0))] : Array Value).getD zz undef) (fun k e w => Mem (List.getD [rowC 5 1 (.slice a2 (putB r).length c2) (putB r).length ((putB r).map (.int .u8)) :: D :: R] k []) w) (fun _ => (0, undef)) [] [0, 0] (fun _ _ => false) hz12 (by kernel_rfl) (by kernel_rfl) (by kernel_rfl) ?_ (show Mem _ _ from hM12) ?_ ?_
             · exact ⟨fun _ _ _ => rfl, fun _ _ _ => rfl, trivial⟩
             ·
              refine ⟨?_, ?_, trivial⟩
              · exact op2 (a := 0) rfl fun e w ρ (hM : Mem _ w) E => res_ok (x_move rfl (E.o 15 _ rfl g15_12)) (goes_still rfl rfl hM)
              · exact op2 (a := 0) rfl fun e w ρ (hM : Mem _ w) E => res_ok (x_lss rfl (E.d 0 _ 76 rfl rfl rfl) (E.c _) rfl) (goes_still rfl rfl hM)
             ·
              intro e a13 w13 hz13 hd hG hO hM
              have hd13 := hd.trans hd12
              have g9_13 := (hO 9 rfl).trans g9_12
              have g15_13 := (hO 15 rfl).trans g15_12
              have g77_13 : a13.tmps[77]? = some (.bool (decide (q < 0))) := hG 1 _ 77 rfl rfl
              have hM13 : Mem (rowC 5 1 (.slice a2 (putB r).length c2) (putB r).length ((putB r).map (.int .u8)) :: D :: R) w13 := hM
              clear hM hG hO hd
              clear hz12 hd12 hM12 g9_12 g15_12
              refine then_n ?_
              by_cases hc4 : q < 0
              ·
               refine cond_t (g77_13.trans (by rw [decide_eq_true hc4])) ?_
               refine region_seq 94 (fun zz e => (#[.int .i64 q, .slice a2 ((putB r).length) c2, .int .i64 ((putB r).length : Int), .int .i64 (q + ((putB r).length : Int)), .int .i64 (q + ((putB r).length : Int))] : Array Value).getD zz undef) (fun k e w => Mem (List.getD [rowC 5 1 (.slice a2 (putB r).length c2) (putB r).length ((putB r).map (.int .u8)) :: D :: R] k []) w) (fun _ => (0, undef)) [] [0, 0, 0, 0, 0] (fun i t => (i == 0 && t == 15)) hz13 (by kernel_rfl) (by kernel_rfl) (by kernel_rfl) ?_ (show Mem _ _ from hM13) ?_ ?_
               · exact ⟨fun _ _ _ => rfl, fun _ _ _ => rfl, fun _ _ _ => rfl, fun _ _ _ => rfl, fun _ _ _ => rfl, trivial⟩
               ·
                refine ⟨?_, ?_, ?_, ?_, ?_, trivial⟩
                · exact op2 (a := 0) rfl fun e w ρ (hM : Mem _ w) E => res_ok (x_move rfl (E.o 15 _ rfl g15_13)) (goes_still rfl rfl hM)
                · exact op2 (a := 0) rfl fun e w ρ (hM : Mem _ w) E => res_ok (x_move rfl (E.o 9 _ rfl g9_13)) (goes_still rfl rfl hM)
                ·
                 refine op2 (a := 0) rfl fun e w ρ (hM : Mem _ w) E => ?_
                 have e79 : ρ (.tmp 79) = .slice a2 ((putB r).length) c2 := E.d 1 _ 79 rfl rfl rfl
                 exact res_ok (x_len (n := 1) rfl rfl rfl rfl (e79) (by kernel_rfl)) (goes_still rfl rfl hM)
                · exact op2 (a := 0) rfl fun e w ρ (hM : Mem _ w) E => res_ok (x_add rfl (E.d 0 _ 78 rfl rfl rfl) (E.d 2 _ 80 rfl rfl rfl) ((wr_i64 (by omega)).trans (by omega))) (goes_still rfl rfl hM)
                · exact op2 (a := 0) rfl fun e w ρ (hM : Mem _ w) E => res_ok (x_assign rfl (E.d 3 _ 81 rfl rfl rfl)) (goes_still rfl rfl hM)
               ·
                intro e a14 w14 hz14 hd hG hO hM
                have hd14 := hd.trans hd13
                have g9_14 := (hO 9 rfl).trans g9_13
                have g15_14 : a14.tmps[15]? = some (.int .i64 (q + ((putB r).length : Int))) := hG 4 _ 15 rfl rfl
                have hM14 : Mem (rowC 5 1 (.slice a2 (putB r).length c2) (putB r).length ((putB r).map (.int .u8)) :: D :: R) w14 := hM
                clear hM hG hO hd
                clear hz13 hd13 hM13 g9_13 g15_13 g77_13
                refine then_n ?_
                exact ⟨(q + ((putB r).length : Int)).toNat, ⟨hz14, hd14, g9_14, (by have h := g15_14; exact h.trans (by congr 2; have := hq1; omega)), (((hM14.front 1 rfl).front 1 rfl)), (by have := hq1; omega)⟩⟩
              ·
               refine cond_f (g77_13.trans (by rw [decide_eq_false hc4])) ?_
               refine wp_skip ?_
               refine then_n ?_
               exact ⟨(q).toNat, ⟨hz13, hd13, g9_13, (by have h := g15_13; exact h.trans (by congr 2; have := hq1; omega)), (((hM13.front 1 rfl).front 1 rfl)), (by have := hq1; omega)⟩⟩
            ·
             clear hz12 hd12 hM12 g9_12 g15_12
             rintro a15 w15 ⟨k, hI⟩
             try dsimp only at hI
             obtain ⟨hz15, hd15, g9_15, g15_15, hM15, hkl⟩ := hI
             have htk : ((putB r).take k).length = k := by rw [List.length_take]; omega
             refine wp_seq ?_
             refine region_seq 94 (fun zz e => (#[.slice a2 ((putB r).length) c2, .int .i64 (k : Int), .slice a2 (((putB r).take k).length) c2, .tuple #[.agg (recCells rec0 (prt (e 0).2 0) (prt (e 0).2 1)), .int .i64 140], .tuple #[.agg (recCells rec0 (prt (e 0).2 0) (prt (e 0).2 1)), .int .i64 140], .agg (recCells rec0 (prt (e 0).2 0) (prt (e 0).2 1)), .int .i64 140, .pointer (some ⟨(e 1).1, 0, none⟩), undef, .int .i64 140] : Array Value).getD zz undef) (fun k e w => Mem (List.getD [rowC 5 1 (.slice a2 (putB r).length c2) (putB r).length ((putB r).map (.int .u8)) :: D :: R, rowC 36 3 (prt (e 0).2 0) rec0.cmd.legs.length (cellsL legE rec0.cmd.legs) :: rowC 58 2 (prt (e 0).2 1) rec0.cmd.taxes.length (cellsL taxE rec0.cmd.taxes) :: rowC 5 1 (.slice a2 (putB r).length c2) (putB r).length ((putB r).map (.int .u8)) :: D :: R, boxC ((e 1).1) #[.int .u8 0, .int .u8 0, .int .u8 0, .int .u64 0, .int .u8 0, .string ByteArray.empty, .slice none 0 0, .int .i64 0, .slice none 0 0, .int .i64 0, .int .i64 0, .int .u8 0, .int .u64 0, .int .u8 0, .int .u8 0, .int .u64 0, .int .u8 0, .int .u8 0, .int .u16 0, .int .u32 0, .int .i64 0, .int .u8 0, .int .u32 0, .int .i64 0, .int .i64 0] :: rowC 36 3 (prt (e 0).2 0) rec0.cmd.legs.length (cellsL legE rec0.cmd.legs) :: rowC 58 2 (prt (e 0).2 1) rec0.cmd.taxes.length (cellsL taxE rec0.cmd.taxes) :: rowC 5 1 (.slice a2 (putB r).length c2) (putB r).length ((putB r).map (.int .u8)) :: D :: R, boxC ((e 1).1) (recCells rec0 (prt (e 0).2 0) (prt (e 0).2 1)) :: rowC 36 3 (prt (e 0).2 0) rec0.cmd.legs.length (cellsL legE rec0.cmd.legs) :: rowC 58 2 (prt (e 0).2 1) rec0.cmd.taxes.length (cellsL taxE rec0.cmd.taxes) :: rowC 5 1 (.slice a2 (putB r).length c2) (putB r).length ((putB r).map (.int .u8)) :: D :: R] k []) w) (fun _ => (0, undef)) [3, 7, 8] [0, 0, 0, 0, 1, 1, 1, 1, 2, 3] (fun _ _ => false) hz15 (by kernel_rfl) (by kernel_rfl) (by kernel_rfl) ?_ (show Mem _ _ from hM15) ?_ ?_
             · exact ⟨fun _ _ _ => rfl, fun _ _ _ => rfl, fun _ _ _ => rfl, fun e e' h => congrArg (fun x : Rv => (.tuple #[.agg (recCells rec0 (prt x.2 0) (prt x.2 1)), .int .i64 140] : Value)) (h 0 (by decide)), fun e e' h => congrArg (fun x : Rv => (.tuple #[.agg (recCells rec0 (prt x.2 0) (prt x.2 1)), .int .i64 140] : Value)) (h 0 (by decide)), fun e e' h => congrArg (fun x : Rv => (.agg (recCells rec0 (prt x.2 0) (prt x.2 1)) : Value)) (h 0 (by decide)), fun _ _ _ => rfl, fun e e' h => congrArg (fun x : Rv => (.pointer (some ⟨x.1, 0, none⟩) : Value)) (h 1 (by decide)), fun _ _ _ => rfl, fun _ _ _ => rfl, trivial⟩
             ·
              refine ⟨?_, ?_, ?_, ?_, ?_, ?_, ?_, ?_, ?_, ?_, trivial⟩
              · exact op2 (a := 0) rfl fun e w ρ (hM : Mem _ w) E => res_ok (x_move rfl (E.o 9 _ rfl g9_15)) (goes_still rfl rfl hM)
              · exact op2 (a := 0) rfl fun e w ρ (hM : Mem _ w) E => res_ok (x_move rfl (E.o 15 _ rfl g15_15)) (goes_still rfl rfl hM)
              ·
               refine op2 (a := 0) rfl fun e w ρ (hM : Mem _ w) E => ?_
               have e83 : ρ (.tmp 83) = .slice a2 ((putB r).length) c2 := E.d 0 _ 83 rfl rfl rfl
               have e84 : ρ (.tmp 84) = .int .i64 (k : Int) := E.d 1 _ 84 rfl rfl rfl
               exact res_ok (x_sliceHi (n := 1) rfl (e83) (e84.trans (by rw [htk])) (by kernel_rfl) (by rw [htk]; omega)) (goes_still rfl rfl hM)
              ·
               refine op2 (a := 0) rfl fun e w ρ (hM : Mem _ w) E => ?_
               have e85 : ρ (.tmp 85) = .slice a2 (((putB r).take k).length) c2 := E.d 2 _ 85 rfl rfl rfl
               refine res_in (x_call (args := #[.slice a2 (((putB r).take k).length) c2]) rfl rfl (E.f _) (by simp [e85]) (by kernel_rfl)) ?_
               refine (get_at a2 c2 ((putB r).take k) _ _ _ (hM.front 0 rfl) (preRd rd_row k) (by rw [htk]; omega) hacA (fun x hx => put_by hi x (List.mem_of_mem_take hx)) (by rw [htk]; have := put_small hi hgr; omega)).mono ?_
               rintro e' w' ⟨vl', vt', he, hm⟩
               rw [(apart_prefix hi hE hkl).1, (apart_prefix hi hE hkl).2] at he
               rw [(apart_prefix hi hE hkl).2] at hm
               subst he
               exact ⟨_, rfl, goes_tick rfl (0, .agg #[vl', vt']) rfl hm⟩
              · exact op2 (a := 1) rfl fun e w ρ (hM : Mem _ w) E => res_ok (x_move rfl (E.d 3 _ 86 rfl rfl rfl)) (goes_still rfl rfl hM)
              ·
               refine op2 (a := 1) rfl fun e w ρ (hM : Mem _ w) E => ?_
               have e82 : ρ (.tmp 82) = .tuple #[.agg (recCells rec0 (prt (e 0).2 0) (prt (e 0).2 1)), .int .i64 140] := E.d 4 _ 82 rfl rfl rfl
               exact res_ok (x_extract rfl (e82) rfl) (goes_still rfl rfl hM)
              ·
               refine op2 (a := 1) rfl fun e w ρ (hM : Mem _ w) E => ?_
               have e82 : ρ (.tmp 82) = .tuple #[.agg (recCells rec0 (prt (e 0).2 0) (prt (e 0).2 1)), .int .i64 140] := E.d 4 _ 82 rfl rfl rfl
               exact res_ok (x_extract rfl (e82) rfl) (goes_still rfl rfl hM)
              ·
               refine op2 (a := 1) rfl fun e w ρ (hM : Mem _ w) E => ?_
               exact res_ok (x_alloc (z := .agg #[.int .u8 0, .int .u8 0, .int .u8 0, .int .u64 0, .int .u8 0, .string ByteArray.empty, .slice none 0 0, .int .i64 0, .slice none 0 0, .int .i64 0, .int .i64 0, .int .u8 0, .int .u64 0, .int .u8 0, .int .u8 0, .int .u64 0, .int .u8 0, .int .u8 0, .int .u16 0, .int .u32 0, .int .i64 0, .int .u8 0, .int .u32 0, .int .i64 0, .int .i64 0]) rfl (by kernel_rfl)) (goes_tick rfl (w.heap.size, undef) rfl (hM.alloc _ _))
              ·
               refine op2 (a := 2) rfl fun e w ρ (hM : Mem _ w) E => ?_
               have e16 := E.d 7 _ 16 rfl rfl rfl
               have e87 := E.d 5 _ 87 rfl rfl rfl
               have hrc0 := row_cell (hM.owns 1 rfl)
               have hrc1 := row_cell (hM.owns 2 rfl)
               obtain ⟨w', hr, hm⟩ := Mem.store (P := Try.prog) hM 0 rfl 44 0 (.agg (recCells rec0 (prt (e 0).2 0) (prt (e 0).2 1))) [.int .u8 rec0.kind, .int .u8 rec0.cmd.kind, .int .u8 rec0.cmd.tick.c, .int .u64 rec0.cmd.tick.r, .int .u8 rec0.cmd.at_, .string rec0.cmd.name, (prt (e 0).2 0), .int .i64 rec0.cmd.fare, (prt (e 0).2 1), .int .i64 rec0.cmd.penalty, .int .i64 rec0.cmd.amount, .int .u8 rec0.frm, .int .u64 rec0.number, .int .u8 rec0.msg.kind, .int .u8 rec0.msg.tick.c, .int .u64 rec0.msg.tick.r, .int .u8 rec0.msg.at_, .int .u8 rec0.msg.leg.c, .int .u16 rec0.msg.leg.f, .int .u32 rec0.msg.leg.x, .int .i64 rec0.msg.value, .int .u8 rec0.msg.status, .int .u32 rec0.msg.nonce, .int .i64 rec0.msg.amount, .int .i64 rec0.msg.code] rfl (by kernel_rfl) (Nat.le_of_ble_eq_true rfl) (by simp only [List.all_cons, List.all_nil, Bool.and_true, hrc0.2, hrc1.2]; rfl)
               exact res_st (x_store rfl (e16) (e87) hr) (goes_tick rfl (0, undef) rfl hm)
              · exact op2 (a := 3) rfl fun e w ρ (hM : Mem _ w) E => res_ok (x_assign rfl (E.d 6 _ 88 rfl rfl rfl)) (goes_still rfl rfl hM)
             ·
              intro e a16 w16 hz16 hd hG hO hM
              have hd16 := hd.trans hd15
              have g17_16 : a16.tmps[17]? = some (.int .i64 140) := hG 9 _ 17 rfl rfl
              have hM16 : Mem (boxC ((e 1).1) (recCells rec0 (prt (e 0).2 0) (prt (e 0).2 1)) :: rowC 36 3 (prt (e 0).2 0) rec0.cmd.legs.length (cellsL legE rec0.cmd.legs) :: rowC 58 2 (prt (e 0).2 1) rec0.cmd.taxes.length (cellsL taxE rec0.cmd.taxes) :: rowC 5 1 (.slice a2 (putB r).length c2) (putB r).length ((putB r).map (.int .u8)) :: D :: R) w16 := hM
              clear hM hG hO hd
              clear hz15 hd15 hM15 g9_15 g15_15
              generalize (e 1).1 = b16_1 at *
              generalize (e 0).2 = v16_0 at *
              refine then_n ?_
              refine wp_seq ?_
              refine region_seq 94 (fun zz e => (#[.int .i64 140, .bool true, .bool true, .bool true, .bool true, .bool true] : Array Value).getD zz undef) (fun k e w => Mem (List.getD [boxC b16_1 (recCells rec0 (prt v16_0 0) (prt v16_0 1)) :: rowC 36 3 (prt v16_0 0) rec0.cmd.legs.length (cellsL legE rec0.cmd.legs) :: rowC 58 2 (prt v16_0 1) rec0.cmd.taxes.length (cellsL taxE rec0.cmd.taxes) :: rowC 5 1 (.slice a2 (putB r).length c2) (putB r).length ((putB r).map (.int .u8)) :: D :: R] k []) w) (fun _ => (0, undef)) [] [0, 0, 0, 0, 0, 0] (fun _ _ => false) hz16 (by kernel_rfl) (by kernel_rfl) (by kernel_rfl) ?_ (show Mem _ _ from hM16) ?_ ?_
              · exact ⟨fun _ _ _ => rfl, fun _ _ _ => rfl, fun _ _ _ => rfl, fun _ _ _ => rfl, fun _ _ _ => rfl, fun _ _ _ => rfl, trivial⟩
              ·
               refine ⟨?_, ?_, ?_, ?_, ?_, ?_, trivial⟩
               · exact op2 (a := 0) rfl fun e w ρ (hM : Mem _ w) E => res_ok (x_move rfl (E.o 17 _ rfl g17_16)) (goes_still rfl rfl hM)
               · exact op2 (a := 0) rfl fun e w ρ (hM : Mem _ w) E => res_ok (x_eql rfl (E.d 0 _ 89 rfl rfl rfl) (E.c _) (by decide)) (goes_still rfl rfl hM)
               · exact op2 (a := 0) rfl fun e w ρ (hM : Mem _ w) E => res_ok (x_move rfl (E.d 1 _ 90 rfl rfl rfl)) (goes_still rfl rfl hM)
               ·
                refine op1 (a := 0) rfl fun e w ρ (hM : Mem _ w) E => ?_
                refine (if_pos rfl).mpr ?_
                refine res_in (x_call (args := #[]) rfl rfl (E.f _) (by simp) (by kernel_rfl)) ?_
                refine (puts_at _ _ hM).mono ?_
                rintro e' w' ⟨rfl, hm⟩
                exact ⟨_, rfl, goes_still rfl rfl (hm)⟩
               ·
                refine op2 (a := 0) rfl fun e w ρ (hM : Mem _ w) E => ?_
                have e91 : ρ (.tmp 91) = .bool true := E.d 2 _ 91 rfl rfl rfl
                have e92 : ρ (.tmp 92) = .bool true := E.d 3 _ 92 rfl rfl rfl
                exact res_ok (x_pick rfl (e91) (e92)) (goes_still rfl rfl hM)
               · exact op2 (a := 0) rfl fun e w ρ (hM : Mem _ w) E => res_ok (x_assign rfl (E.d 4 _ 93 rfl rfl rfl)) (goes_still rfl rfl hM)
              ·
               intro e a17 w17 hz17 hd hG hO hM
               have hd17 := hd.trans hd16
               have g8_17 : a17.tmps[8]? = some (.bool true) := hG 5 _ 8 rfl rfl
               have hM17 : Mem (boxC b16_1 (recCells rec0 (prt v16_0 0) (prt v16_0 1)) :: rowC 36 3 (prt v16_0 0) rec0.cmd.legs.length (cellsL legE rec0.cmd.legs) :: rowC 58 2 (prt v16_0 1) rec0.cmd.taxes.length (cellsL taxE rec0.cmd.taxes) :: rowC 5 1 (.slice a2 (putB r).length c2) (putB r).length ((putB r).map (.int .u8)) :: D :: R) w17 := hM
               clear hM hG hO hd
               clear hz16 hd16 hM16 g17_16
               refine then_n ?_
               refine wp_ret ?_
               refine ret_1 Try.results6 hd17 g8_17 ?_
               exact ⟨rfl, (((((hM17.erase 3 rfl).erase 2 rfl).erase 1 rfl).erase 0 rfl).front 0 rfl)⟩
       ·
        refine cond_t (g44_5.trans (by rw [hc2])) ?_
        refine wp_seq ?_
        refine region_seq 94 (fun zz e => (#[.bool true, .bool true] : Array Value).getD zz undef) (fun k e w => Mem (List.getD [rowC 5 1 (.slice a3 ((putB s).length) c3) (putB s).length ((putB s).map (.int .u8)) :: rowC 5 1 (.slice a2 ((putB r).length) c2) (putB r).length ((putB r).map (.int .u8)) :: boxC b1_1 (recCells s (.slice als s.cmd.legs.length cls) (.slice ats s.cmd.taxes.length cts)) :: boxC b1_0 (recCells r (.slice al r.cmd.legs.length cl) (.slice at1 r.cmd.taxes.length ct)) :: D :: R] k []) w) (fun _ => (0, undef)) [] [0, 0] (fun _ _ => false) hz5 (by kernel_rfl) (by kernel_rfl) (by kernel_rfl) ?_ (show Mem _ _ from hM5) ?_ ?_
        · exact ⟨fun _ _ _ => rfl, fun _ _ _ => rfl, trivial⟩
        ·
         refine ⟨?_, ?_, trivial⟩
         ·
          refine op2 (a := 0) rfl fun e w ρ (hM : Mem _ w) E => ?_
          refine res_in (x_call (args := #[]) rfl rfl (E.f _) (by simp) (by kernel_rfl)) ?_
          refine (puts_at _ _ hM).mono ?_
          rintro e' w' ⟨rfl, hm⟩
          exact ⟨_, rfl, goes_still rfl rfl (hm)⟩
         · exact op2 (a := 0) rfl fun e w ρ (hM : Mem _ w) E => res_ok (x_assign rfl (E.d 0 _ 45 rfl rfl rfl)) (goes_still rfl rfl hM)
        ·
         intro e a18 w18 hz18 hd hG hO hM
         have hd18 := hd.trans hd5
         have g2_18 := (hO 2 rfl).trans g2_5
         have g3_18 := (hO 3 rfl).trans g3_5
         have g4_18 := (hO 4 rfl).trans g4_5
         have g5_18 := (hO 5 rfl).trans g5_5
         have g8_18 : a18.tmps[8]? = some (.bool true) := hG 1 _ 8 rfl rfl
         have g9_18 := (hO 9 rfl).trans g9_5
         have g11_18 := (hO 11 rfl).trans g11_5
         have hM18 : Mem (rowC 5 1 (.slice a3 ((putB s).length) c3) (putB s).length ((putB s).map (.int .u8)) :: rowC 5 1 (.slice a2 ((putB r).length) c2) (putB r).length ((putB r).map (.int .u8)) :: boxC b1_1 (recCells s (.slice als s.cmd.legs.length cls) (.slice ats s.cmd.taxes.length cts)) :: boxC b1_0 (recCells r (.slice al r.cmd.legs.length cl) (.slice at1 r.cmd.taxes.length ct)) :: D :: R) w18 := hM
         clear hM hG hO hd
         clear hz5 hd5 hM5 g2_5 g3_5 g4_5 g5_5 g8_5 g9_5 g11_5 g44_5
         refine then_n ?_
         refine wp_ret ?_
         refine then_r ?_
         refine ret_1 Try.results6 hd18 g8_18 ?_
         exact ⟨rfl, (((((hM18.erase 3 rfl).erase 2 rfl).erase 1 rfl).erase 0 rfl).front 0 rfl)⟩
   ·
    refine cond_t (g28_2.trans (by rw [hc1])) ?_
    refine wp_seq ?_
    refine region_seq 94 (fun zz e => (#[.bool true] : Array Value).getD zz undef) (fun k e w => Mem (List.getD [boxC b1_1 (recCells s (.slice als s.cmd.legs.length cls) (.slice ats s.cmd.taxes.length cts)) :: boxC b1_0 (recCells r (.slice al r.cmd.legs.length cl) (.slice at1 r.cmd.taxes.length ct)) :: D :: R] k []) w) (fun _ => (0, undef)) [] [0] (fun _ _ => false) hz2 (by kernel_rfl) (by kernel_rfl) (by kernel_rfl) ?_ (show Mem _ _ from hM2) ?_ ?_
    · exact ⟨fun _ _ _ => rfl, trivial⟩
    ·
     refine ⟨?_, trivial⟩
     · exact op2 (a := 0) rfl fun e w ρ (hM : Mem _ w) E => res_ok (x_assign rfl (E.c _)) (goes_still rfl rfl hM)
    ·
     intro e a19 w19 hz19 hd hG hO hM
     have hd19 := hd.trans hd2
     have g2_19 := (hO 2 rfl).trans g2_2
     have g3_19 := (hO 3 rfl).trans g3_2
     have g4_19 := (hO 4 rfl).trans g4_2
     have g5_19 := (hO 5 rfl).trans g5_2
     have g8_19 : a19.tmps[8]? = some (.bool true) := hG 0 _ 8 rfl rfl
     have hM19 : Mem (boxC b1_1 (recCells s (.slice als s.cmd.legs.length cls) (.slice ats s.cmd.taxes.length cts)) :: boxC b1_0 (recCells r (.slice al r.cmd.legs.length cl) (.slice at1 r.cmd.taxes.length ct)) :: D :: R) w19 := hM
     clear hM hG hO hd
     clear hz2 hd2 hM2 g2_2 g3_2 g4_2 g5_2 g8_2 g28_2
     refine then_n ?_
     refine wp_ret ?_
     refine then_r ?_
     refine ret_1 Try.results6 hd19 g8_19 ?_
     exact ⟨rfl, (((hM19.erase 1 rfl).erase 0 rfl).front 0 rfl)⟩
theorem apart_any (r : RecV) (al at1 : Option Addr) (cl ct : Nat) (s : RecV) (als ats : Option Addr) (cls cts : Nat) (ab : Option Addr) (n cb : Nat) (zs : List Int) (cut : Int) (w : World) (hl : Row w al (cellsL legE r.cmd.legs)) (ht : Row w at1 (cellsL taxE r.cmd.taxes)) (hi : RecIn r) (hl2 : Row w als (cellsL legE s.cmd.legs)) (ht2 : Row w ats (cellsL taxE s.cmd.taxes)) (hj : RecIn s) (hb : IsRow .u8 w ab n cb zs) (hc : (Lit.int .i64 cut).wf = true) :
  Calls Try.prog 6 #[.agg (recCells r (.slice al r.cmd.legs.length cl) (.slice at1 r.cmd.taxes.length ct)), .agg (recCells s (.slice als s.cmd.legs.length cls) (.slice ats s.cmd.taxes.length cts)), .slice ab n cb, .int .i64 cut] w fun e w' => e = .returned (.bool true) ∧ Below w.heap.size w w' := by
 obtain ⟨bs, h1, h4, h2, h3, h5, h6⟩ := isRow_bytes hb
 subst h1
 exact (apart_at r al at1 cl ct s als ats cls cts ab cb bs cut (oldC w) [] w (Mem.old w) (rd_old hl) (rd_old ht) hi (rd_old hl2) (rd_old ht2) hj (rd_old h4) h2 h5 h6 h3).mono fun e w' h => ⟨h.1, h.2.below 0 rfl⟩
end Go.Proofs.Ytfcjmpgbohgoeaa
