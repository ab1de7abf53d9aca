/- CODEC: the walk of CodecBack. -/
import Derived.Test.YtfcjmpgbohgoeaaCo17
import Derived.Test.YtfcjmpgbohgoeaaCo18
import Derived.Test.YtfcjmpgbohgoeaaCo19
import Derived.Test.YtfcjmpgbohgoeaaCo22
namespace Go.Proofs.Ytfcjmpgbohgoeaa
open Go.RowKit Go.Lib Go.Tk Go.Shelf Go.Vc
set_option linter.unusedVariables false
set_option linter.unusedSimpArgs false
attribute [-go_sem] loadCellsFrom
theorem rdM {D : Chunk} {a : Option Addr} {xs : List Value} (h : Rd D a xs) {cs : List Chunk} (i : Nat) (hi : cs[i]? = some D) : Reads cs a xs := fun w hm => h.row hm i hi
theorem x_neB {P : Program} {w : World} {ρ : Operand → Value} {o : Oper} {t t' : TypeId} {x y : Operand} {a b c : Bool} (ht : P.underlying t = some .bool) (ho : o.op = .binOp .neq t x y t') (hx : ρ x = .bool a) (hy : ρ y = .bool b) (hc : (!(a == b)) = c) : (execOp ρ o).run P w = .ok (.value (.bool c)) w := by
 have h : ∀ d : Nat, (Op.equalIn (d + 1) t (.bool a) (.bool b)).run P w = .ok (a == b) w := fun d => run_equalIn_bool w d t a b ht
 have h2 : (binOp .neq t (.bool a) (.bool b)).run P w = .ok (.bool c) w := by
  simp only [binOp]
  simp [Op.equal, Op.maxDepth, h 9999, hc]
 unfold execOp; rw [ho]; simp [hx, hy, eqGuard, h2]
theorem sameW_self (r : RecV) : sameW r r = true := (sameW_iff r r).2 rfl
theorem By.app {a b : List Int} (h : By a) (k : By b) : By (a ++ b) := fun x hx => (List.mem_append.1 hx).elim (h x) (k x)
theorem by_enc (x : Int) (n : Nat) : By (encN x n) := be_in _ _
theorem by_len (n : Nat) : By (lenBy n) := be_in _ _
theorem by_flat {α : Type} {f : α → List Int} (h : ∀ x, By (f x)) (l : List α) : By (l.map f).flatten := fun x hx => by
 obtain ⟨r, hr, hx⟩ := List.mem_flatten.1 hx
 obtain ⟨y, _, rfl⟩ := List.mem_map.1 hr
 exact h y x hx
theorem by_tick (t : TickV) : By (tickBy t) := (by_enc _ _).app (by_enc _ _)
theorem by_leg (t : LegV) : By (legBy t) := (by_enc _ _).app ((by_enc _ _).app (by_enc _ _))
theorem by_text (s : ByteArray) : By (textBy s) := (by_len _).app (bytesOf_in s)
theorem by_tax (t : TaxV) : By (taxBy t) := (by_text _).app (by_enc _ _)
theorem by_cmd (c : CmdV) : By (cmdBy c) := (by_enc _ _).app ((by_tick _).app ((by_enc _ _).app ((by_enc _ _).app ((by_text _).app (((by_len _).app (by_flat by_leg _)).app ((by_enc _ _).app (((by_len _).app (by_flat by_tax _)).app (by_enc _ _))))))))
theorem by_msg (m : MsgV) : By (msgBy m) := (by_enc _ _).app ((by_tick _).app ((by_enc _ _).app ((by_leg _).app ((by_enc _ _).app ((by_enc _ _).app ((by_enc _ _).app ((by_enc _ _).app (by_enc _ _))))))))
theorem by_rec (r : RecV) : By (recBy r) := (by_enc _ _).app (by
 split
 · exact by_cmd _
 ·
  split
  · exact (by_enc _ _).app ((by_enc _ _).app (by_msg _))
  · exact (by_enc _ _).app (by_enc _ _))
theorem put_by {r : RecV} (hi : RecIn r) : By (putB r) := by
 by_cases h : putE r = 0
 · rw [putB_eq h hi]; exact by_rec r
 · rw [putB_no h]; intro x hx; cases hx
theorem put_small {r : RecV} (hi : RecIn r) (hg : greatV r = false) : (putB r).length ≤ 400000 := by
 by_cases h : putE r = 0
 ·
  obtain ⟨⟨h1, h2, h3⟩, h4⟩ := not_great hg
  have h5 := sumC_le _ h4
  have h6 := recBy_len r
  have h7 : sizeV r ≤ 400000 := by
   unfold sizeV
   split
   · omega
   · split <;> omega
  rw [putB_eq h hi]; omega
 · rw [putB_no h]; exact Nat.zero_le _
theorem isRow_bytes {w : World} {a : Option Addr} {n c : Nat} {zs : List Int} (h : IsRow .u8 w a n c zs) : ∃ xs : List Int, xs.length = n ∧ Row w a (xs.map (.int .u8)) ∧ n ≤ c ∧ n ≤ maxLen ∧ (a = none → c = 0) ∧ By xs := by
 have hnc : n ≤ c := by
  rcases h with ⟨-, rfl, rfl, -⟩ | ⟨x, -, hl, -⟩
  · exact Nat.le_refl _
  · exact hl
 obtain ⟨xs, h1, h2, h3, h4, h5⟩ := h.row
 exact ⟨xs, h1, h2, hnc, h3, h4, fun x hx => wf_u8 (h5 x hx)⟩
set_option maxRecDepth 100000 in
set_option maxHeartbeats 8000000 in
theorem back_at (r : RecV) (al at1 : Option Addr) (cl ct : Nat) (ab : Option Addr) (cb : Nat) (bs : List Int) (D : Chunk) (R : List Chunk) (w : World) (hM : Mem (D :: R) w) (rl : Rd D al (cellsL legE r.cmd.legs)) (rt : Rd D at1 (cellsL taxE r.cmd.taxes)) (hi : RecIn r) (rb : Rd D ab (bs.map (.int .u8))) (hlc : bs.length ≤ cb) (hac : ab = none → cb = 0) (hin : By bs) (hbm : bs.length ≤ maxLen) :
  Calls Try.prog 5 #[.agg (recCells r (.slice al r.cmd.legs.length cl) (.slice at1 r.cmd.taxes.length ct)), .slice ab bs.length cb] w fun e w' => e = .returned (.bool true) ∧ Mem (D :: R) w' := by
 unfold maxLen at hbm
 refine enter Try.func5 rfl Try.ntmps5 (Nat.le_of_ble_eq_true rfl) ?_
 intro a0 hz0 hd0 hg0
 have g0_0 : a0.tmps[0]? = some (.agg (recCells r (.slice al r.cmd.legs.length cl) (.slice at1 r.cmd.taxes.length ct))) := hg0 0 _ rfl
 have g1_0 : a0.tmps[1]? = some (.slice ab bs.length cb) := hg0 1 _ rfl
 clear hg0
 have hM0 : Mem (D :: R) _ := hM
 refine wp_seq ?_
 refine region_seq 84 (fun zz e => (#[.pointer (some ⟨(e 0).1, 0, none⟩), .bool false] : Array Value).getD zz undef) (fun k e w => Mem (List.getD [D :: R, boxC ((e 0).1) (recCells r (.slice al r.cmd.legs.length cl) (.slice at1 r.cmd.taxes.length ct)) :: D :: R] k []) w) (fun _ => (0, undef)) [0] [0, 1] (fun _ _ => false) hz0 (by kernel_rfl) (by kernel_rfl) (by kernel_rfl) ?_ (show Mem _ _ from hM0) ?_ ?_
 · exact ⟨fun e e' h => congrArg (fun x : Rv => (.pointer (some ⟨x.1, 0, none⟩) : Value)) (h 0 (by decide)), fun _ _ _ => rfl, trivial⟩
 ·
  refine ⟨?_, ?_, trivial⟩
  ·
   refine op2 (a := 0) rfl fun e w ρ (hM : Mem _ w) E => ?_
   have e0 : ρ (.tmp 0) = .agg (recCells r (.slice al r.cmd.legs.length cl) (.slice at1 r.cmd.taxes.length ct)) := E.o 0 _ rfl g0_0
   exact res_ok (x_box rfl (e0)) (goes_tick rfl (w.heap.size, undef) rfl (hM.alloc _ _))
  · exact op2 (a := 1) rfl fun e w ρ (hM : Mem _ w) E => res_ok (x_assign rfl (E.c _)) (goes_still rfl rfl hM)
 ·
  intro e a1 w1 hz1 hd hG hO hM
  have hd1 := hd.trans hd0
  have g1_1 := (hO 1 rfl).trans g1_0
  have g2_1 : a1.tmps[2]? = some (.pointer (some ⟨(e 0).1, 0, none⟩)) := hG 0 _ 2 rfl rfl
  have g4_1 : a1.tmps[4]? = some (.bool false) := hG 1 _ 4 rfl rfl
  have hM1 : Mem (boxC ((e 0).1) (recCells r (.slice al r.cmd.legs.length cl) (.slice at1 r.cmd.taxes.length ct)) :: D :: R) w1 := hM
  clear hM hG hO hd
  clear hz0 hd0 hM0 g0_0 g1_0
  generalize (e 0).1 = b1_0 at *
  refine then_n ?_
  refine wp_seq ?_
  refine wp_seq ?_
  obtain ⟨z1_2, hz1_2⟩ : ∃ z : Bool, z = (greatV r) := ⟨_, rfl⟩
  refine region_seq 84 (fun zz e => (#[.agg (recCells r (.slice al r.cmd.legs.length cl) (.slice at1 r.cmd.taxes.length ct)), .bool (greatV r), .bool z1_2, (gd z1_2 false (.slice ab bs.length cb)), (gd z1_2 false (.int .i64 (bs.length : Int))), (gd z1_2 false (.bool (decide ((bs.length : Int) > 1000)))), .bool (z1_2 || (decide ((bs.length : Int) > 1000)))] : Array Value).getD zz undef) (fun k e w => Mem (List.getD [boxC b1_0 (recCells r (.slice al r.cmd.legs.length cl) (.slice at1 r.cmd.taxes.length ct)) :: D :: R] k []) w) (fun _ => (0, undef)) [] [0, 0, 0, 0, 0, 0, 0] (fun _ _ => false) hz1 (by kernel_rfl) (by kernel_rfl) (by kernel_rfl) ?_ (show Mem _ _ from hM1) ?_ ?_
  · exact ⟨fun _ _ _ => rfl, fun _ _ _ => rfl, fun _ _ _ => rfl, fun _ _ _ => rfl, fun _ _ _ => rfl, fun _ _ _ => rfl, fun _ _ _ => rfl, trivial⟩
  ·
   refine ⟨?_, ?_, ?_, ?_, ?_, ?_, ?_, trivial⟩
   · exact op2 (a := 0) rfl fun e w ρ (hM : Mem _ w) E => res_ok (x_loads rfl (E.o 2 _ rfl g2_1) (by kernel_rfl) (load_part (hM.box 0 rfl) [.int .u8 r.kind, .int .u8 r.cmd.kind, .int .u8 r.cmd.tick.c, .int .u64 r.cmd.tick.r, .int .u8 r.cmd.at_, .string r.cmd.name, .slice al r.cmd.legs.length cl, .int .i64 r.cmd.fare, .slice at1 r.cmd.taxes.length ct, .int .i64 r.cmd.penalty, .int .i64 r.cmd.amount, .int .u8 r.frm, .int .u64 r.number, .int .u8 r.msg.kind, .int .u8 r.msg.tick.c, .int .u64 r.msg.tick.r, .int .u8 r.msg.at_, .int .u8 r.msg.leg.c, .int .u16 r.msg.leg.f, .int .u32 r.msg.leg.x, .int .i64 r.msg.value, .int .u8 r.msg.status, .int .u32 r.msg.nonce, .int .i64 r.msg.amount, .int .i64 r.msg.code] rfl (Nat.le_of_ble_eq_true rfl) rfl)) (goes_still rfl rfl hM)
   ·
    refine op2 (a := 0) rfl fun e w ρ (hM : Mem _ w) E => ?_
    have e13 : ρ (.tmp 13) = .agg (recCells r (.slice al r.cmd.legs.length cl) (.slice at1 r.cmd.taxes.length ct)) := E.d 0 _ 13 rfl rfl rfl
    refine res_in (x_call (args := #[.agg (recCells r (.slice al r.cmd.legs.length cl) (.slice at1 r.cmd.taxes.length ct))]) rfl rfl (E.f _) (by simp [e13]) (by kernel_rfl)) ?_
    refine (great_at r al at1 cl ct _ _ hM (rdM rt 1 rfl) hi.cmd.nt).mono ?_
    rintro e' w' ⟨rfl, hm⟩
    exact ⟨_, rfl, goes_still rfl rfl (hm)⟩
   · exact op2 (a := 0) rfl fun e w ρ (hM : Mem _ w) E => res_ok (x_move rfl (E.d 1 _ 14 rfl rfl rfl)) (goes_still rfl (congrArg Value.bool hz1_2.symm) hM)
   · exact op3 (a := 0) z1_2 rfl (fun _ => rfl) rfl (fun hC _ => (gd_no hC).symm) fun hC e w ρ (hM : Mem _ w) E => res_ok (x_move rfl (E.o 1 _ rfl g1_1)) (goes_still rfl (gd_yes hC).symm hM)
   ·
    refine op3 (a := 0) z1_2 rfl (fun _ => rfl) rfl (fun hC _ => (gd_no hC).symm) fun hC e w ρ (hM : Mem _ w) E => ?_
    have e16 : ρ (.tmp 16) = .slice ab bs.length cb := ((E.d 3 _ 16 rfl rfl rfl).trans (gd_yes hC))
    exact res_ok (x_len (n := 1) rfl rfl rfl rfl (e16) (by kernel_rfl)) (goes_still rfl (gd_yes hC).symm hM)
   · exact op3 (a := 0) z1_2 rfl (fun _ => rfl) rfl (fun hC _ => (gd_no hC).symm) fun hC e w ρ (hM : Mem _ w) E => res_ok (x_gtr rfl ((E.d 4 _ 17 rfl rfl rfl).trans (gd_yes hC)) (E.c _) rfl) (goes_still rfl (gd_yes hC).symm hM)
   · exact op2 (a := 0) rfl fun e w ρ (hM : Mem _ w) E => res_ok (x_pickOr rfl (E.d 2 _ 15 rfl rfl rfl) (fun hC => ((E.d 5 _ 18 rfl rfl rfl).trans (gd_f hC))) (E.c _)) (goes_still rfl rfl hM)
  ·
   intro e a2 w2 hz2 hd hG hO hM
   have hd2 := hd.trans hd1
   have g1_2 := (hO 1 rfl).trans g1_1
   have g2_2 := (hO 2 rfl).trans g2_1
   have g4_2 := (hO 4 rfl).trans g4_1
   have g19_2 : a2.tmps[19]? = some (.bool (z1_2 || (decide ((bs.length : Int) > 1000)))) := hG 6 _ 19 rfl rfl
   have hM2 : Mem (boxC b1_0 (recCells r (.slice al r.cmd.legs.length cl) (.slice at1 r.cmd.taxes.length ct)) :: D :: R) w2 := hM
   clear hM hG hO hd
   clear hz1 hd1 hM1 g1_1 g2_1 g4_1
   refine then_n ?_
   cases hc1 : z1_2 || (decide ((bs.length : Int) > 1000))
   ·
    refine cond_f (g19_2.trans (by rw [hc1])) ?_
    have hgg := hc1
    rw [hz1_2, Bool.or_eq_false_iff, decide_eq_false_iff_not] at hgg
    obtain ⟨hgr, hbl⟩ := hgg
    obtain ⟨⟨hgn, hgl, hgt⟩, hgc⟩ := not_great hgr
    have hw := hi.w (by omega) (by omega)
    refine wp_skip ?_
    refine then_n ?_
    refine wp_seq ?_
    refine region_seq 84 (fun zz e => (#[.agg (recCells r (.slice al r.cmd.legs.length cl) (.slice at1 r.cmd.taxes.length ct)), .tuple #[(e 0).2, .int .i64 (putE r)], .tuple #[(e 0).2, .int .i64 (putE r)], (e 0).2, .int .i64 (putE r), (e 0).2, .int .i64 (putE r)] : Array Value).getD zz undef) (fun k e w => Mem (List.getD [boxC b1_0 (recCells r (.slice al r.cmd.legs.length cl) (.slice at1 r.cmd.taxes.length ct)) :: D :: R, rowC 5 1 (e 0).2 (putB r).length ((putB r).map (.int .u8)) :: boxC b1_0 (recCells r (.slice al r.cmd.legs.length cl) (.slice at1 r.cmd.taxes.length ct)) :: D :: R] k []) w) (fun _ => (0, undef)) [1] [0, 0, 1, 1, 1, 1, 1] (fun _ _ => false) hz2 (by kernel_rfl) (by kernel_rfl) (by kernel_rfl) ?_ (show Mem _ _ from hM2) ?_ ?_
    · exact ⟨fun _ _ _ => rfl, fun e e' h => congrArg (fun x : Rv => (.tuple #[x.2, .int .i64 (putE r)] : Value)) (h 0 (by decide)), fun e e' h => congrArg (fun x : Rv => (.tuple #[x.2, .int .i64 (putE r)] : Value)) (h 0 (by decide)), fun e e' h => congrArg (fun x : Rv => (x.2 : Value)) (h 0 (by decide)), fun _ _ _ => rfl, fun e e' h => congrArg (fun x : Rv => (x.2 : Value)) (h 0 (by decide)), fun _ _ _ => rfl, trivial⟩
    ·
     refine ⟨?_, ?_, ?_, ?_, ?_, ?_, ?_, trivial⟩
     · exact op2 (a := 0) rfl fun e w ρ (hM : Mem _ w) E => res_ok (x_loads rfl (E.o 2 _ rfl g2_2) (by kernel_rfl) (load_part (hM.box 0 rfl) [.int .u8 r.kind, .int .u8 r.cmd.kind, .int .u8 r.cmd.tick.c, .int .u64 r.cmd.tick.r, .int .u8 r.cmd.at_, .string r.cmd.name, .slice al r.cmd.legs.length cl, .int .i64 r.cmd.fare, .slice at1 r.cmd.taxes.length ct, .int .i64 r.cmd.penalty, .int .i64 r.cmd.amount, .int .u8 r.frm, .int .u64 r.number, .int .u8 r.msg.kind, .int .u8 r.msg.tick.c, .int .u64 r.msg.tick.r, .int .u8 r.msg.at_, .int .u8 r.msg.leg.c, .int .u16 r.msg.leg.f, .int .u32 r.msg.leg.x, .int .i64 r.msg.value, .int .u8 r.msg.status, .int .u32 r.msg.nonce, .int .i64 r.msg.amount, .int .i64 r.msg.code] rfl (Nat.le_of_ble_eq_true rfl) rfl)) (goes_still rfl rfl hM)
     ·
      refine op2 (a := 0) rfl fun e w ρ (hM : Mem _ w) E => ?_
      have e21 : ρ (.tmp 21) = .agg (recCells r (.slice al r.cmd.legs.length cl) (.slice at1 r.cmd.taxes.length ct)) := E.d 0 _ 21 rfl rfl rfl
      refine res_in (x_call (args := #[.agg (recCells r (.slice al r.cmd.legs.length cl) (.slice at1 r.cmd.taxes.length ct))]) rfl rfl (E.f _) (by simp [e21]) (by kernel_rfl)) ?_
      refine (put_at r al at1 cl ct _ _ hM (rdM rl 1 rfl) (rdM rt 1 rfl) hw).mono ?_
      rintro e' w' ⟨v', rfl, hm⟩
      exact ⟨_, rfl, goes_tick rfl (0, v') rfl hm⟩
     · exact op2 (a := 1) rfl fun e w ρ (hM : Mem _ w) E => res_ok (x_move rfl (E.d 1 _ 22 rfl rfl rfl)) (goes_still rfl rfl hM)
     ·
      refine op2 (a := 1) rfl fun e w ρ (hM : Mem _ w) E => ?_
      have e20 : ρ (.tmp 20) = .tuple #[(e 0).2, .int .i64 (putE r)] := E.d 2 _ 20 rfl rfl rfl
      exact res_ok (x_extract rfl (e20) rfl) (goes_still rfl rfl hM)
     ·
      refine op2 (a := 1) rfl fun e w ρ (hM : Mem _ w) E => ?_
      have e20 : ρ (.tmp 20) = .tuple #[(e 0).2, .int .i64 (putE r)] := E.d 2 _ 20 rfl rfl rfl
      exact res_ok (x_extract rfl (e20) rfl) (goes_still rfl rfl hM)
     · exact op2 (a := 1) rfl fun e w ρ (hM : Mem _ w) E => res_ok (x_assign rfl (E.d 3 _ 23 rfl rfl rfl)) (goes_still rfl rfl hM)
     · exact op2 (a := 1) rfl fun e w ρ (hM : Mem _ w) E => res_ok (x_assign rfl (E.d 4 _ 24 rfl rfl rfl)) (goes_still rfl rfl hM)
    ·
     intro e a3 w3 hz3 hd hG hO hM
     have hd3 := hd.trans hd2
     have g1_3 := (hO 1 rfl).trans g1_2
     have g2_3 := (hO 2 rfl).trans g2_2
     have g4_3 := (hO 4 rfl).trans g4_2
     have g5_3 : a3.tmps[5]? = some ((e 0).2) := hG 5 _ 5 rfl rfl
     have g6_3 : a3.tmps[6]? = some (.int .i64 (putE r)) := hG 6 _ 6 rfl rfl
     have hM3 : Mem (rowC 5 1 (e 0).2 (putB r).length ((putB r).map (.int .u8)) :: boxC b1_0 (recCells r (.slice al r.cmd.legs.length cl) (.slice at1 r.cmd.taxes.length ct)) :: D :: R) w3 := hM
     clear hM hG hO hd
     clear hz2 hd2 hM2 g1_2 g2_2 g4_2 g19_2
     generalize (e 0).2 = v3_0 at *
     obtain ⟨a2, c2, rfl, hrwA, hlcA, hcmA, hacA⟩ := (hM3.owns 0 rfl).row
     refine then_n ?_
     refine wp_seq ?_
     refine wp_seq ?_
     obtain ⟨z4_4, hz4_4⟩ : ∃ z : Bool, z = (mayV r) := ⟨_, rfl⟩
     refine region_seq 84 (fun zz e => (#[.int .i64 (putE r), .bool (decide ((putE r) = 0)), .agg (recCells r (.slice al r.cmd.legs.length cl) (.slice at1 r.cmd.taxes.length ct)), .bool (mayV r), .bool z4_4, (gd z4_4 true (.agg (recCells r (.slice al r.cmd.legs.length cl) (.slice at1 r.cmd.taxes.length ct)))), (gd z4_4 true (.bool (longB r))), (gd z4_4 true (.bool (!longB r))), .bool (z4_4 && (!longB r)), .bool false] : Array Value).getD zz undef) (fun k e w => Mem (List.getD [rowC 5 1 (.slice a2 ((putB r).length) c2) (putB r).length ((putB r).map (.int .u8)) :: boxC b1_0 (recCells r (.slice al r.cmd.legs.length cl) (.slice at1 r.cmd.taxes.length ct)) :: D :: R] k []) w) (fun _ => (0, undef)) [] [0, 0, 0, 0, 0, 0, 0, 0, 0, 0] (fun _ _ => false) hz3 (by kernel_rfl) (by kernel_rfl) (by kernel_rfl) ?_ (show Mem _ _ from hM3) ?_ ?_
     · exact ⟨fun _ _ _ => rfl, fun _ _ _ => rfl, fun _ _ _ => rfl, fun _ _ _ => rfl, fun _ _ _ => rfl, fun _ _ _ => rfl, fun _ _ _ => rfl, fun _ _ _ => rfl, fun _ _ _ => rfl, fun _ _ _ => rfl, trivial⟩
     ·
      refine ⟨?_, ?_, ?_, ?_, ?_, ?_, ?_, ?_, ?_, ?_, trivial⟩
      · exact op2 (a := 0) rfl fun e w ρ (hM : Mem _ w) E => res_ok (x_move rfl (E.o 6 _ rfl g6_3)) (goes_still rfl rfl hM)
      · exact op2 (a := 0) rfl fun e w ρ (hM : Mem _ w) E => res_ok (x_eql rfl (E.d 0 _ 25 rfl rfl rfl) (E.c _) rfl) (goes_still rfl rfl hM)
      · exact op2 (a := 0) rfl fun e w ρ (hM : Mem _ w) E => res_ok (x_loads rfl (E.o 2 _ rfl g2_3) (by kernel_rfl) (load_part (hM.box 1 rfl) [.int .u8 r.kind, .int .u8 r.cmd.kind, .int .u8 r.cmd.tick.c, .int .u64 r.cmd.tick.r, .int .u8 r.cmd.at_, .string r.cmd.name, .slice al r.cmd.legs.length cl, .int .i64 r.cmd.fare, .slice at1 r.cmd.taxes.length ct, .int .i64 r.cmd.penalty, .int .i64 r.cmd.amount, .int .u8 r.frm, .int .u64 r.number, .int .u8 r.msg.kind, .int .u8 r.msg.tick.c, .int .u64 r.msg.tick.r, .int .u8 r.msg.at_, .int .u8 r.msg.leg.c, .int .u16 r.msg.leg.f, .int .u32 r.msg.leg.x, .int .i64 r.msg.value, .int .u8 r.msg.status, .int .u32 r.msg.nonce, .int .i64 r.msg.amount, .int .i64 r.msg.code] rfl (Nat.le_of_ble_eq_true rfl) rfl)) (goes_still rfl rfl hM)
      ·
       refine op2 (a := 0) rfl fun e w ρ (hM : Mem _ w) E => ?_
       have e27 : ρ (.tmp 27) = .agg (recCells r (.slice al r.cmd.legs.length cl) (.slice at1 r.cmd.taxes.length ct)) := E.d 2 _ 27 rfl rfl rfl
       refine res_in (x_call (args := #[.agg (recCells r (.slice al r.cmd.legs.length cl) (.slice at1 r.cmd.taxes.length ct))]) rfl rfl (E.f _) (by simp [e27]) (by kernel_rfl)) ?_
       refine (may_at r al at1 cl ct _ _ hM).mono ?_
       rintro e' w' ⟨rfl, hm⟩
       exact ⟨_, rfl, goes_still rfl rfl (hm)⟩
      · exact op2 (a := 0) rfl fun e w ρ (hM : Mem _ w) E => res_ok (x_move rfl (E.d 3 _ 28 rfl rfl rfl)) (goes_still rfl (congrArg Value.bool hz4_4.symm) hM)
      · exact op3 (a := 0) z4_4 rfl (fun _ => rfl) rfl (fun hC _ => (gd_no hC).symm) fun hC e w ρ (hM : Mem _ w) E => res_ok (x_loads rfl (E.o 2 _ rfl g2_3) (by kernel_rfl) (load_part (hM.box 1 rfl) [.int .u8 r.kind, .int .u8 r.cmd.kind, .int .u8 r.cmd.tick.c, .int .u64 r.cmd.tick.r, .int .u8 r.cmd.at_, .string r.cmd.name, .slice al r.cmd.legs.length cl, .int .i64 r.cmd.fare, .slice at1 r.cmd.taxes.length ct, .int .i64 r.cmd.penalty, .int .i64 r.cmd.amount, .int .u8 r.frm, .int .u64 r.number, .int .u8 r.msg.kind, .int .u8 r.msg.tick.c, .int .u64 r.msg.tick.r, .int .u8 r.msg.at_, .int .u8 r.msg.leg.c, .int .u16 r.msg.leg.f, .int .u32 r.msg.leg.x, .int .i64 r.msg.value, .int .u8 r.msg.status, .int .u32 r.msg.nonce, .int .i64 r.msg.amount, .int .i64 r.msg.code] rfl (Nat.le_of_ble_eq_true rfl) rfl)) (goes_still rfl (gd_yes hC).symm hM)
      ·
       refine op3 (a := 0) z4_4 rfl (fun _ => rfl) rfl (fun hC _ => (gd_no hC).symm) fun hC e w ρ (hM : Mem _ w) E => ?_
       have e30 : ρ (.tmp 30) = .agg (recCells r (.slice al r.cmd.legs.length cl) (.slice at1 r.cmd.taxes.length ct)) := ((E.d 5 _ 30 rfl rfl rfl).trans (gd_yes hC))
       refine res_in (x_call (args := #[.agg (recCells r (.slice al r.cmd.legs.length cl) (.slice at1 r.cmd.taxes.length ct))]) rfl rfl (E.f _) (by simp [e30]) (by kernel_rfl)) ?_
       refine (long_at r al at1 cl ct _ _ hM (rdM rt 2 rfl) hi.cmd.nt).mono ?_
       rintro e' w' ⟨rfl, hm⟩
       exact ⟨_, rfl, goes_still rfl (gd_yes hC).symm (hm)⟩
      · exact op3 (a := 0) z4_4 rfl (fun _ => rfl) rfl (fun hC _ => (gd_no hC).symm) fun hC e w ρ (hM : Mem _ w) E => res_ok (x_not rfl ((E.d 6 _ 31 rfl rfl rfl).trans (gd_yes hC)) (rfl)) (goes_still rfl (gd_yes hC).symm hM)
      · exact op2 (a := 0) rfl fun e w ρ (hM : Mem _ w) E => res_ok (x_pickAnd rfl (E.d 4 _ 29 rfl rfl rfl) (fun hC => ((E.d 7 _ 32 rfl rfl rfl).trans (gd_t hC))) (E.c _)) (goes_still rfl rfl hM)
      ·
       refine op2 (a := 0) rfl fun e w ρ (hM : Mem _ w) E => ?_
       have e26 : ρ (.tmp 26) = .bool (decide ((putE r) = 0)) := E.d 1 _ 26 rfl rfl rfl
       have e33 : ρ (.tmp 33) = .bool (z4_4 && (!longB r)) := E.d 8 _ 33 rfl rfl rfl
       exact res_ok (x_neB Try.underlying4 rfl (e26) (e33) (by rw [putE_iff, hz4_4]; simp)) (goes_still rfl rfl hM)
     ·
      intro e a4 w4 hz4 hd hG hO hM
      have hd4 := hd.trans hd3
      have g1_4 := (hO 1 rfl).trans g1_3
      have g2_4 := (hO 2 rfl).trans g2_3
      have g4_4 := (hO 4 rfl).trans g4_3
      have g5_4 := (hO 5 rfl).trans g5_3
      have g6_4 := (hO 6 rfl).trans g6_3
      have g34_4 : a4.tmps[34]? = some (.bool false) := hG 9 _ 34 rfl rfl
      have hM4 : Mem (rowC 5 1 (.slice a2 ((putB r).length) c2) (putB r).length ((putB r).map (.int .u8)) :: boxC b1_0 (recCells r (.slice al r.cmd.legs.length cl) (.slice at1 r.cmd.taxes.length ct)) :: D :: R) w4 := hM
      clear hM hG hO hd
      clear hz3 hd3 hM3 g1_3 g2_3 g4_3 g5_3 g6_3
      refine then_n ?_
      refine cond_f g34_4 ?_
      refine wp_skip ?_
      refine then_n ?_
      refine seq_cut (fun aa ww => ∃ xx : Unit, (fun xx aa ww => aa.tmps.size = 84 ∧ aa.defers = [] ∧ aa.tmps[1]? = some (.slice ab bs.length cb) ∧ Mem (D :: R) ww) xx aa ww) ?_ ?_
      ·
       refine wp_seq ?_
       refine region_seq 84 (fun zz e => (#[.int .i64 (putE r), .bool (decide ((putE r) = 0))] : Array Value).getD zz undef) (fun k e w => Mem (List.getD [rowC 5 1 (.slice a2 ((putB r).length) c2) (putB r).length ((putB r).map (.int .u8)) :: boxC b1_0 (recCells r (.slice al r.cmd.legs.length cl) (.slice at1 r.cmd.taxes.length ct)) :: D :: R] k []) w) (fun _ => (0, undef)) [] [0, 0] (fun _ _ => false) hz4 (by kernel_rfl) (by kernel_rfl) (by kernel_rfl) ?_ (show Mem _ _ from hM4) ?_ ?_
       · exact ⟨fun _ _ _ => rfl, fun _ _ _ => rfl, trivial⟩
       ·
        refine ⟨?_, ?_, trivial⟩
        · exact op2 (a := 0) rfl fun e w ρ (hM : Mem _ w) E => res_ok (x_move rfl (E.o 6 _ rfl g6_4)) (goes_still rfl rfl hM)
        · exact op2 (a := 0) rfl fun e w ρ (hM : Mem _ w) E => res_ok (x_eql rfl (E.d 0 _ 35 rfl rfl rfl) (E.c _) rfl) (goes_still rfl rfl hM)
       ·
        intro e a5 w5 hz5 hd hG hO hM
        have hd5 := hd.trans hd4
        have g1_5 := (hO 1 rfl).trans g1_4
        have g2_5 := (hO 2 rfl).trans g2_4
        have g4_5 := (hO 4 rfl).trans g4_4
        have g5_5 := (hO 5 rfl).trans g5_4
        have g36_5 : a5.tmps[36]? = some (.bool (decide ((putE r) = 0))) := hG 1 _ 36 rfl rfl
        have hM5 : Mem (rowC 5 1 (.slice a2 ((putB r).length) c2) (putB r).length ((putB r).map (.int .u8)) :: boxC b1_0 (recCells r (.slice al r.cmd.legs.length cl) (.slice at1 r.cmd.taxes.length ct)) :: D :: R) w5 := hM
        clear hM hG hO hd
        clear hz4 hd4 hM4 g1_4 g2_4 g4_4 g5_4 g6_4 g34_4
        refine then_n ?_
        by_cases hE : (putE r) = 0
        ·
         refine cond_t (g36_5.trans (by rw [decide_eq_true hE])) ?_
         refine wp_seq ?_
         refine region_seq 84 (fun zz e => (#[.slice a2 ((putB r).length) c2, .tuple #[.agg (recCells r (prt (e 0).2 0) (prt (e 0).2 1)), .int .i64 0], .tuple #[.agg (recCells r (prt (e 0).2 0) (prt (e 0).2 1)), .int .i64 0], .agg (recCells r (prt (e 0).2 0) (prt (e 0).2 1)), .int .i64 0, .pointer (some ⟨(e 1).1, 0, none⟩), undef, .int .i64 0] : Array Value).getD zz undef) (fun k e w => Mem (List.getD [rowC 5 1 (.slice a2 ((putB r).length) c2) (putB r).length ((putB r).map (.int .u8)) :: boxC b1_0 (recCells r (.slice al r.cmd.legs.length cl) (.slice at1 r.cmd.taxes.length ct)) :: D :: R, rowC 36 3 (prt (e 0).2 0) r.cmd.legs.length (cellsL legE r.cmd.legs) :: rowC 58 2 (prt (e 0).2 1) r.cmd.taxes.length (cellsL taxE r.cmd.taxes) :: rowC 5 1 (.slice a2 ((putB r).length) c2) (putB r).length ((putB r).map (.int .u8)) :: boxC b1_0 (recCells r (.slice al r.cmd.legs.length cl) (.slice at1 r.cmd.taxes.length ct)) :: D :: R, boxC ((e 1).1) #[.int .u8 0, .int .u8 0, .int .u8 0, .int .u64 0, .int .u8 0, .string ByteArray.empty, .slice none 0 0, .int .i64 0, .slice none 0 0, .int .i64 0, .int .i64 0, .int .u8 0, .int .u64 0, .int .u8 0, .int .u8 0, .int .u64 0, .int .u8 0, .int .u8 0, .int .u16 0, .int .u32 0, .int .i64 0, .int .u8 0, .int .u32 0, .int .i64 0, .int .i64 0] :: rowC 36 3 (prt (e 0).2 0) r.cmd.legs.length (cellsL legE r.cmd.legs) :: rowC 58 2 (prt (e 0).2 1) r.cmd.taxes.length (cellsL taxE r.cmd.taxes) :: rowC 5 1 (.slice a2 ((putB r).length) c2) (putB r).length ((putB r).map (.int .u8)) :: boxC b1_0 (recCells r (.slice al r.cmd.legs.length cl) (.slice at1 r.cmd.taxes.length ct)) :: D :: R, boxC ((e 1).1) (recCells r (prt (e 0).2 0) (prt (e 0).2 1)) :: rowC 36 3 (prt (e 0).2 0) r.cmd.legs.length (cellsL legE r.cmd.legs) :: rowC 58 2 (prt (e 0).2 1) r.cmd.taxes.length (cellsL taxE r.cmd.taxes) :: rowC 5 1 (.slice a2 ((putB r).length) c2) (putB r).length ((putB r).map (.int .u8)) :: boxC b1_0 (recCells r (.slice al r.cmd.legs.length cl) (.slice at1 r.cmd.taxes.length ct)) :: D :: R] k []) w) (fun _ => (0, undef)) [1, 5, 6] [0, 0, 1, 1, 1, 1, 2, 3] (fun _ _ => false) hz5 (by kernel_rfl) (by kernel_rfl) (by kernel_rfl) ?_ (show Mem _ _ from hM5) ?_ ?_
         · exact ⟨fun _ _ _ => rfl, fun e e' h => congrArg (fun x : Rv => (.tuple #[.agg (recCells r (prt x.2 0) (prt x.2 1)), .int .i64 0] : Value)) (h 0 (by decide)), fun e e' h => congrArg (fun x : Rv => (.tuple #[.agg (recCells r (prt x.2 0) (prt x.2 1)), .int .i64 0] : Value)) (h 0 (by decide)), fun e e' h => congrArg (fun x : Rv => (.agg (recCells r (prt x.2 0) (prt x.2 1)) : Value)) (h 0 (by decide)), fun _ _ _ => rfl, fun e e' h => congrArg (fun x : Rv => (.pointer (some ⟨x.1, 0, none⟩) : Value)) (h 1 (by decide)), fun _ _ _ => rfl, fun _ _ _ => rfl, trivial⟩
         ·
          refine ⟨?_, ?_, ?_, ?_, ?_, ?_, ?_, ?_, trivial⟩
          · exact op2 (a := 0) rfl fun e w ρ (hM : Mem _ w) E => res_ok (x_move rfl (E.o 5 _ rfl g5_5)) (goes_still rfl rfl hM)
          ·
           refine op2 (a := 0) rfl fun e w ρ (hM : Mem _ w) E => ?_
           have e38 : ρ (.tmp 38) = .slice a2 ((putB r).length) c2 := E.d 0 _ 38 rfl rfl rfl
           refine res_in (x_call (args := #[.slice a2 ((putB r).length) c2]) rfl rfl (E.f _) (by simp [e38]) (by kernel_rfl)) ?_
           refine (get_at a2 c2 (putB r) _ _ _ (hM.front 0 rfl) rd_row hlcA hacA (put_by hi) (Nat.le_trans (put_small hi hgr) (by decide))).mono ?_
           rintro e' w' ⟨vl', vt', he, hm⟩
           rw [(get_of_put hi hE).1, (get_of_put hi hE).2] at he
           rw [(get_of_put hi hE).2] at hm
           subst he
           exact ⟨_, rfl, goes_tick rfl (0, .agg #[vl', vt']) rfl hm⟩
          · exact op2 (a := 1) rfl fun e w ρ (hM : Mem _ w) E => res_ok (x_move rfl (E.d 1 _ 39 rfl rfl rfl)) (goes_still rfl rfl hM)
          ·
           refine op2 (a := 1) rfl fun e w ρ (hM : Mem _ w) E => ?_
           have e37 : ρ (.tmp 37) = .tuple #[.agg (recCells r (prt (e 0).2 0) (prt (e 0).2 1)), .int .i64 0] := E.d 2 _ 37 rfl rfl rfl
           exact res_ok (x_extract rfl (e37) rfl) (goes_still rfl rfl hM)
          ·
           refine op2 (a := 1) rfl fun e w ρ (hM : Mem _ w) E => ?_
           have e37 : ρ (.tmp 37) = .tuple #[.agg (recCells r (prt (e 0).2 0) (prt (e 0).2 1)), .int .i64 0] := E.d 2 _ 37 rfl rfl rfl
           exact res_ok (x_extract rfl (e37) rfl) (goes_still rfl rfl hM)
          ·
           refine op2 (a := 1) rfl fun e w ρ (hM : Mem _ w) E => ?_
           exact res_ok (x_alloc (z := .agg #[.int .u8 0, .int .u8 0, .int .u8 0, .int .u64 0, .int .u8 0, .string ByteArray.empty, .slice none 0 0, .int .i64 0, .slice none 0 0, .int .i64 0, .int .i64 0, .int .u8 0, .int .u64 0, .int .u8 0, .int .u8 0, .int .u64 0, .int .u8 0, .int .u8 0, .int .u16 0, .int .u32 0, .int .i64 0, .int .u8 0, .int .u32 0, .int .i64 0, .int .i64 0]) rfl (by kernel_rfl)) (goes_tick rfl (w.heap.size, undef) rfl (hM.alloc _ _))
          ·
           refine op2 (a := 2) rfl fun e w ρ (hM : Mem _ w) E => ?_
           have e7 := E.d 5 _ 7 rfl rfl rfl
           have e40 := E.d 3 _ 40 rfl rfl rfl
           have hrc0 := row_cell (hM.owns 1 rfl)
           have hrc1 := row_cell (hM.owns 2 rfl)
           obtain ⟨w', hr, hm⟩ := Mem.store (P := Try.prog) hM 0 rfl 44 0 (.agg (recCells r (prt (e 0).2 0) (prt (e 0).2 1))) [.int .u8 r.kind, .int .u8 r.cmd.kind, .int .u8 r.cmd.tick.c, .int .u64 r.cmd.tick.r, .int .u8 r.cmd.at_, .string r.cmd.name, (prt (e 0).2 0), .int .i64 r.cmd.fare, (prt (e 0).2 1), .int .i64 r.cmd.penalty, .int .i64 r.cmd.amount, .int .u8 r.frm, .int .u64 r.number, .int .u8 r.msg.kind, .int .u8 r.msg.tick.c, .int .u64 r.msg.tick.r, .int .u8 r.msg.at_, .int .u8 r.msg.leg.c, .int .u16 r.msg.leg.f, .int .u32 r.msg.leg.x, .int .i64 r.msg.value, .int .u8 r.msg.status, .int .u32 r.msg.nonce, .int .i64 r.msg.amount, .int .i64 r.msg.code] rfl (by kernel_rfl) (Nat.le_of_ble_eq_true rfl) (by simp only [List.all_cons, List.all_nil, Bool.and_true, hrc0.2, hrc1.2]; rfl)
           exact res_st (x_store rfl (e7) (e40) hr) (goes_tick rfl (0, undef) rfl hm)
          · exact op2 (a := 3) rfl fun e w ρ (hM : Mem _ w) E => res_ok (x_assign rfl (E.d 4 _ 41 rfl rfl rfl)) (goes_still rfl rfl hM)
         ·
          intro e a6 w6 hz6 hd hG hO hM
          have hd6 := hd.trans hd5
          have g1_6 := (hO 1 rfl).trans g1_5
          have g2_6 := (hO 2 rfl).trans g2_5
          have g4_6 := (hO 4 rfl).trans g4_5
          have g7_6 : a6.tmps[7]? = some (.pointer (some ⟨(e 1).1, 0, none⟩)) := hG 5 _ 7 rfl rfl
          have g8_6 : a6.tmps[8]? = some (.int .i64 0) := hG 7 _ 8 rfl rfl
          have hM6 : Mem (boxC ((e 1).1) (recCells r (prt (e 0).2 0) (prt (e 0).2 1)) :: rowC 36 3 (prt (e 0).2 0) r.cmd.legs.length (cellsL legE r.cmd.legs) :: rowC 58 2 (prt (e 0).2 1) r.cmd.taxes.length (cellsL taxE r.cmd.taxes) :: rowC 5 1 (.slice a2 ((putB r).length) c2) (putB r).length ((putB r).map (.int .u8)) :: boxC b1_0 (recCells r (.slice al r.cmd.legs.length cl) (.slice at1 r.cmd.taxes.length ct)) :: D :: R) w6 := hM
          clear hM hG hO hd
          clear hz5 hd5 hM5 g1_5 g2_5 g4_5 g5_5 g36_5
          generalize (e 1).1 = b6_1 at *
          generalize (e 0).2 = v6_0 at *
          generalize hgv : prt v6_0 0 = gv at *
          obtain ⟨alx, clx, rfl, -, -⟩ := row_slice hM6 1 rfl
          clear hgv
          generalize hgv : prt v6_0 1 = gv at *
          obtain ⟨atx, ctx, rfl, -, -⟩ := row_slice hM6 2 rfl
          clear hgv
          refine then_n ?_
          refine wp_seq ?_
          refine region_seq 84 (fun zz e => (#[.int .i64 0, .bool false, .bool false, .agg (recCells r (.slice alx r.cmd.legs.length clx) (.slice atx r.cmd.taxes.length ctx)), .agg (recCells r (.slice al r.cmd.legs.length cl) (.slice at1 r.cmd.taxes.length ct)), .bool true, .bool false, .bool false] : Array Value).getD zz undef) (fun k e w => Mem (List.getD [boxC b6_1 (recCells r (.slice alx r.cmd.legs.length clx) (.slice atx r.cmd.taxes.length ctx)) :: rowC 36 3 (.slice alx r.cmd.legs.length clx) r.cmd.legs.length (cellsL legE r.cmd.legs) :: rowC 58 2 (.slice atx r.cmd.taxes.length ctx) r.cmd.taxes.length (cellsL taxE r.cmd.taxes) :: rowC 5 1 (.slice a2 ((putB r).length) c2) (putB r).length ((putB r).map (.int .u8)) :: boxC b1_0 (recCells r (.slice al r.cmd.legs.length cl) (.slice at1 r.cmd.taxes.length ct)) :: D :: R] k []) w) (fun _ => (0, undef)) [] [0, 0, 0, 0, 0, 0, 0, 0] (fun _ _ => false) hz6 (by kernel_rfl) (by kernel_rfl) (by kernel_rfl) ?_ (show Mem _ _ from hM6) ?_ ?_
          · exact ⟨fun _ _ _ => rfl, fun _ _ _ => rfl, fun _ _ _ => rfl, fun _ _ _ => rfl, fun _ _ _ => rfl, fun _ _ _ => rfl, fun _ _ _ => rfl, fun _ _ _ => rfl, trivial⟩
          ·
           refine ⟨?_, ?_, ?_, ?_, ?_, ?_, ?_, ?_, trivial⟩
           · exact op2 (a := 0) rfl fun e w ρ (hM : Mem _ w) E => res_ok (x_move rfl (E.o 8 _ rfl g8_6)) (goes_still rfl rfl hM)
           · exact op2 (a := 0) rfl fun e w ρ (hM : Mem _ w) E => res_ok (x_neq rfl (E.d 0 _ 42 rfl rfl rfl) (E.c _) (by decide)) (goes_still rfl rfl hM)
           · exact op2 (a := 0) rfl fun e w ρ (hM : Mem _ w) E => res_ok (x_move rfl (E.d 1 _ 43 rfl rfl rfl)) (goes_still rfl rfl hM)
           · exact op1 (a := 0) rfl fun e w ρ (hM : Mem _ w) E => (if_pos rfl).mpr (res_ok (x_loads rfl (E.o 7 _ rfl g7_6) (by kernel_rfl) (load_part (hM.box 0 rfl) [.int .u8 r.kind, .int .u8 r.cmd.kind, .int .u8 r.cmd.tick.c, .int .u64 r.cmd.tick.r, .int .u8 r.cmd.at_, .string r.cmd.name, .slice alx r.cmd.legs.length clx, .int .i64 r.cmd.fare, .slice atx r.cmd.taxes.length ctx, .int .i64 r.cmd.penalty, .int .i64 r.cmd.amount, .int .u8 r.frm, .int .u64 r.number, .int .u8 r.msg.kind, .int .u8 r.msg.tick.c, .int .u64 r.msg.tick.r, .int .u8 r.msg.at_, .int .u8 r.msg.leg.c, .int .u16 r.msg.leg.f, .int .u32 r.msg.leg.x, .int .i64 r.msg.value, .int .u8 r.msg.status, .int .u32 r.msg.nonce, .int .i64 r.msg.amount, .int .i64 r.msg.code] rfl (Nat.le_of_ble_eq_true rfl) rfl)) (goes_still rfl rfl hM))
           · exact op1 (a := 0) rfl fun e w ρ (hM : Mem _ w) E => (if_pos rfl).mpr (res_ok (x_loads rfl (E.o 2 _ rfl g2_6) (by kernel_rfl) (load_part (hM.box 4 rfl) [.int .u8 r.kind, .int .u8 r.cmd.kind, .int .u8 r.cmd.tick.c, .int .u64 r.cmd.tick.r, .int .u8 r.cmd.at_, .string r.cmd.name, .slice al r.cmd.legs.length cl, .int .i64 r.cmd.fare, .slice at1 r.cmd.taxes.length ct, .int .i64 r.cmd.penalty, .int .i64 r.cmd.amount, .int .u8 r.frm, .int .u64 r.number, .int .u8 r.msg.kind, .int .u8 r.msg.tick.c, .int .u64 r.msg.tick.r, .int .u8 r.msg.at_, .int .u8 r.msg.leg.c, .int .u16 r.msg.leg.f, .int .u32 r.msg.leg.x, .int .i64 r.msg.value, .int .u8 r.msg.status, .int .u32 r.msg.nonce, .int .i64 r.msg.amount, .int .i64 r.msg.code] rfl (Nat.le_of_ble_eq_true rfl) rfl)) (goes_still rfl rfl hM))
           ·
            refine op1 (a := 0) rfl fun e w ρ (hM : Mem _ w) E => ?_
            have e45 : ρ (.tmp 45) = .agg (recCells r (.slice alx r.cmd.legs.length clx) (.slice atx r.cmd.taxes.length ctx)) := E.d 3 _ 45 rfl rfl rfl
            have e46 : ρ (.tmp 46) = .agg (recCells r (.slice al r.cmd.legs.length cl) (.slice at1 r.cmd.taxes.length ct)) := E.d 4 _ 46 rfl rfl rfl
            refine (if_pos rfl).mpr ?_
            refine res_in (x_call (args := #[.agg (recCells r (.slice alx r.cmd.legs.length clx) (.slice atx r.cmd.taxes.length ctx)), .agg (recCells r (.slice al r.cmd.legs.length cl) (.slice at1 r.cmd.taxes.length ct))]) rfl rfl (E.f _) (by simp [e45, e46]) (by kernel_rfl)) ?_
            refine (rsame_at r r alx atx al at1 clx ctx cl ct _ _ hM (Reads.own 1 rfl) (Reads.own 2 rfl) ⟨hw.legs, hw.taxes⟩ (rdM rl 5 rfl) (rdM rt 5 rfl) ⟨hw.legs, hw.taxes⟩).mono ?_
            rintro e' w' ⟨he, hm⟩
            rw [sameW_self] at he
            subst he
            exact ⟨_, rfl, goes_still rfl rfl (hm)⟩
           · exact op1 (a := 0) rfl fun e w ρ (hM : Mem _ w) E => (if_pos rfl).mpr (res_ok (x_not rfl (E.d 5 _ 47 rfl rfl rfl) (rfl)) (goes_still rfl rfl hM))
           ·
            refine op2 (a := 0) rfl fun e w ρ (hM : Mem _ w) E => ?_
            have e44 : ρ (.tmp 44) = .bool false := E.d 2 _ 44 rfl rfl rfl
            have e48 : ρ (.tmp 48) = .bool false := E.d 6 _ 48 rfl rfl rfl
            exact res_ok (x_pick rfl (e44) (e48)) (goes_still rfl rfl hM)
          ·
           intro e a7 w7 hz7 hd hG hO hM
           have hd7 := hd.trans hd6
           have g1_7 := (hO 1 rfl).trans g1_6
           have g4_7 := (hO 4 rfl).trans g4_6
           have g49_7 : a7.tmps[49]? = some (.bool false) := hG 7 _ 49 rfl rfl
           have hM7 : Mem (boxC b6_1 (recCells r (.slice alx r.cmd.legs.length clx) (.slice atx r.cmd.taxes.length ctx)) :: rowC 36 3 (.slice alx r.cmd.legs.length clx) r.cmd.legs.length (cellsL legE r.cmd.legs) :: rowC 58 2 (.slice atx r.cmd.taxes.length ctx) r.cmd.taxes.length (cellsL taxE r.cmd.taxes) :: rowC 5 1 (.slice a2 ((putB r).length) c2) (putB r).length ((putB r).map (.int .u8)) :: boxC b1_0 (recCells r (.slice al r.cmd.legs.length cl) (.slice at1 r.cmd.taxes.length ct)) :: D :: R) w7 := hM
           clear hM hG hO hd
           clear hz6 hd6 hM6 g1_6 g2_6 g4_6 g7_6 g8_6
           refine then_n ?_
           refine cond_f g49_7 ?_
           refine wp_skip ?_
           refine then_n ?_
           exact ⟨(), ⟨hz7, hd7, g1_7, (((((((hM7.erase 4 rfl).erase 3 rfl).erase 2 rfl).erase 1 rfl).erase 0 rfl).front 0 rfl))⟩⟩
        ·
         refine cond_f (g36_5.trans (by rw [decide_eq_false hE])) ?_
         refine wp_skip ?_
         refine then_n ?_
         exact ⟨(), ⟨hz5, hd5, g1_5, ((((hM5.erase 1 rfl).erase 0 rfl).front 0 rfl))⟩⟩
      ·
       clear hz4 hd4 hM4 g1_4 g2_4 g4_4 g5_4 g6_4 g34_4
       rintro a8 w8 ⟨_, hI⟩
       try dsimp only at hI
       obtain ⟨hz8, hd8, g1_8, hM8⟩ := hI
       refine wp_seq ?_
       refine region_seq 84 (fun zz e => (#[.slice ab bs.length cb, .tuple #[.agg (recCells (getR bs) (prt (e 0).2 0) (prt (e 0).2 1)), .int .i64 (getE bs)], .tuple #[.agg (recCells (getR bs) (prt (e 0).2 0) (prt (e 0).2 1)), .int .i64 (getE bs)], .agg (recCells (getR bs) (prt (e 0).2 0) (prt (e 0).2 1)), .int .i64 (getE bs), .pointer (some ⟨(e 1).1, 0, none⟩), undef, .int .i64 (getE bs)] : Array Value).getD zz undef) (fun k e w => Mem (List.getD [D :: R, rowC 36 3 (prt (e 0).2 0) (getR bs).cmd.legs.length (cellsL legE (getR bs).cmd.legs) :: rowC 58 2 (prt (e 0).2 1) (getR bs).cmd.taxes.length (cellsL taxE (getR bs).cmd.taxes) :: D :: R, boxC ((e 1).1) #[.int .u8 0, .int .u8 0, .int .u8 0, .int .u64 0, .int .u8 0, .string ByteArray.empty, .slice none 0 0, .int .i64 0, .slice none 0 0, .int .i64 0, .int .i64 0, .int .u8 0, .int .u64 0, .int .u8 0, .int .u8 0, .int .u64 0, .int .u8 0, .int .u8 0, .int .u16 0, .int .u32 0, .int .i64 0, .int .u8 0, .int .u32 0, .int .i64 0, .int .i64 0] :: rowC 36 3 (prt (e 0).2 0) (getR bs).cmd.legs.length (cellsL legE (getR bs).cmd.legs) :: rowC 58 2 (prt (e 0).2 1) (getR bs).cmd.taxes.length (cellsL taxE (getR bs).cmd.taxes) :: D :: R, boxC ((e 1).1) (recCells (getR bs) (prt (e 0).2 0) (prt (e 0).2 1)) :: rowC 36 3 (prt (e 0).2 0) (getR bs).cmd.legs.length (cellsL legE (getR bs).cmd.legs) :: rowC 58 2 (prt (e 0).2 1) (getR bs).cmd.taxes.length (cellsL taxE (getR bs).cmd.taxes) :: D :: R] k []) w) (fun _ => (0, undef)) [1, 5, 6] [0, 0, 1, 1, 1, 1, 2, 3] (fun _ _ => false) hz8 (by kernel_rfl) (by kernel_rfl) (by kernel_rfl) ?_ (show Mem _ _ from hM8) ?_ ?_
       · exact ⟨fun _ _ _ => rfl, fun e e' h => congrArg (fun x : Rv => (.tuple #[.agg (recCells (getR bs) (prt x.2 0) (prt x.2 1)), .int .i64 (getE bs)] : Value)) (h 0 (by decide)), fun e e' h => congrArg (fun x : Rv => (.tuple #[.agg (recCells (getR bs) (prt x.2 0) (prt x.2 1)), .int .i64 (getE bs)] : Value)) (h 0 (by decide)), fun e e' h => congrArg (fun x : Rv => (.agg (recCells (getR bs) (prt x.2 0) (prt x.2 1)) : Value)) (h 0 (by decide)), fun _ _ _ => rfl, fun e e' h => congrArg (fun x : Rv => (.pointer (some ⟨x.1, 0, none⟩) : Value)) (h 1 (by decide)), fun _ _ _ => rfl, fun _ _ _ => rfl, trivial⟩
       ·
        refine ⟨?_, ?_, ?_, ?_, ?_, ?_, ?_, ?_, trivial⟩
        · exact op2 (a := 0) rfl fun e w ρ (hM : Mem _ w) E => res_ok (x_move rfl (E.o 1 _ rfl g1_8)) (goes_still rfl rfl hM)
        ·
         refine op2 (a := 0) rfl fun e w ρ (hM : Mem _ w) E => ?_
         have e51 : ρ (.tmp 51) = .slice ab bs.length cb := E.d 0 _ 51 rfl rfl rfl
         refine res_in (x_call (args := #[.slice ab bs.length cb]) rfl rfl (E.f _) (by simp [e51]) (by kernel_rfl)) ?_
         refine (get_at ab cb bs D _ _ (hM.front 0 rfl) rb hlc hac hin (by omega)).mono ?_
         rintro e' w' ⟨vl', vt', rfl, hm⟩
         exact ⟨_, rfl, goes_tick rfl (0, .agg #[vl', vt']) rfl hm⟩
        · exact op2 (a := 1) rfl fun e w ρ (hM : Mem _ w) E => res_ok (x_move rfl (E.d 1 _ 52 rfl rfl rfl)) (goes_still rfl rfl hM)
        ·
         refine op2 (a := 1) rfl fun e w ρ (hM : Mem _ w) E => ?_
         have e50 : ρ (.tmp 50) = .tuple #[.agg (recCells (getR bs) (prt (e 0).2 0) (prt (e 0).2 1)), .int .i64 (getE bs)] := E.d 2 _ 50 rfl rfl rfl
         exact res_ok (x_extract rfl (e50) rfl) (goes_still rfl rfl hM)
        ·
         refine op2 (a := 1) rfl fun e w ρ (hM : Mem _ w) E => ?_
         have e50 : ρ (.tmp 50) = .tuple #[.agg (recCells (getR bs) (prt (e 0).2 0) (prt (e 0).2 1)), .int .i64 (getE bs)] := E.d 2 _ 50 rfl rfl rfl
         exact res_ok (x_extract rfl (e50) rfl) (goes_still rfl rfl hM)
        ·
         refine op2 (a := 1) rfl fun e w ρ (hM : Mem _ w) E => ?_
         exact res_ok (x_alloc (z := .agg #[.int .u8 0, .int .u8 0, .int .u8 0, .int .u64 0, .int .u8 0, .string ByteArray.empty, .slice none 0 0, .int .i64 0, .slice none 0 0, .int .i64 0, .int .i64 0, .int .u8 0, .int .u64 0, .int .u8 0, .int .u8 0, .int .u64 0, .int .u8 0, .int .u8 0, .int .u16 0, .int .u32 0, .int .i64 0, .int .u8 0, .int .u32 0, .int .i64 0, .int .i64 0]) rfl (by kernel_rfl)) (goes_tick rfl (w.heap.size, undef) rfl (hM.alloc _ _))
        ·
         refine op2 (a := 2) rfl fun e w ρ (hM : Mem _ w) E => ?_
         have e9 := E.d 5 _ 9 rfl rfl rfl
         have e53 := E.d 3 _ 53 rfl rfl rfl
         have hrc0 := row_cell (hM.owns 1 rfl)
         have hrc1 := row_cell (hM.owns 2 rfl)
         obtain ⟨w', hr, hm⟩ := Mem.store (P := Try.prog) hM 0 rfl 44 0 (.agg (recCells (getR bs) (prt (e 0).2 0) (prt (e 0).2 1))) [.int .u8 ((getR bs).kind), .int .u8 ((getR bs).cmd.kind), .int .u8 ((getR bs).cmd.tick.c), .int .u64 ((getR bs).cmd.tick.r), .int .u8 ((getR bs).cmd.at_), .string ((getR bs).cmd.name), (prt (e 0).2 0), .int .i64 ((getR bs).cmd.fare), (prt (e 0).2 1), .int .i64 ((getR bs).cmd.penalty), .int .i64 ((getR bs).cmd.amount), .int .u8 ((getR bs).frm), .int .u64 ((getR bs).number), .int .u8 ((getR bs).msg.kind), .int .u8 ((getR bs).msg.tick.c), .int .u64 ((getR bs).msg.tick.r), .int .u8 ((getR bs).msg.at_), .int .u8 ((getR bs).msg.leg.c), .int .u16 ((getR bs).msg.leg.f), .int .u32 ((getR bs).msg.leg.x), .int .i64 ((getR bs).msg.value), .int .u8 ((getR bs).msg.status), .int .u32 ((getR bs).msg.nonce), .int .i64 ((getR bs).msg.amount), .int .i64 ((getR bs).msg.code)] rfl (by kernel_rfl) (Nat.le_of_ble_eq_true rfl) (by simp only [List.all_cons, List.all_nil, Bool.and_true, hrc0.2, hrc1.2]; rfl)
         exact res_st (x_store rfl (e9) (e53) hr) (goes_tick rfl (0, undef) rfl hm)
        · exact op2 (a := 3) rfl fun e w ρ (hM : Mem _ w) E => res_ok (x_assign rfl (E.d 4 _ 54 rfl rfl rfl)) (goes_still rfl rfl hM)
       ·
        intro e a9 w9 hz9 hd hG hO hM
        have hd9 := hd.trans hd8
        have g1_9 := (hO 1 rfl).trans g1_8
        have g9_9 : a9.tmps[9]? = some (.pointer (some ⟨(e 1).1, 0, none⟩)) := hG 5 _ 9 rfl rfl
        have g10_9 : a9.tmps[10]? = some (.int .i64 (getE bs)) := hG 7 _ 10 rfl rfl
        have hM9 : Mem (boxC ((e 1).1) (recCells (getR bs) (prt (e 0).2 0) (prt (e 0).2 1)) :: rowC 36 3 (prt (e 0).2 0) (getR bs).cmd.legs.length (cellsL legE (getR bs).cmd.legs) :: rowC 58 2 (prt (e 0).2 1) (getR bs).cmd.taxes.length (cellsL taxE (getR bs).cmd.taxes) :: D :: R) w9 := hM
        clear hM hG hO hd
        clear hz8 hd8 hM8 g1_8
        generalize (e 1).1 = b9_1 at *
        generalize (e 0).2 = v9_0 at *
        generalize hgv : prt v9_0 0 = gv at *
        obtain ⟨aly, cly, rfl, -, -⟩ := row_slice hM9 1 rfl
        clear hgv
        generalize hgv : prt v9_0 1 = gv at *
        obtain ⟨aty, cty, rfl, -, -⟩ := row_slice hM9 2 rfl
        clear hgv
        refine then_n ?_
        refine wp_seq ?_
        refine wp_seq ?_
        refine region_seq 84 (fun zz e => (#[.int .i64 (getE bs), .bool (!decide ((getE bs) = 0))] : Array Value).getD zz undef) (fun k e w => Mem (List.getD [boxC b9_1 (recCells (getR bs) (.slice aly ((getR bs).cmd.legs.length) cly) (.slice aty ((getR bs).cmd.taxes.length) cty)) :: rowC 36 3 (.slice aly ((getR bs).cmd.legs.length) cly) (getR bs).cmd.legs.length (cellsL legE (getR bs).cmd.legs) :: rowC 58 2 (.slice aty ((getR bs).cmd.taxes.length) cty) (getR bs).cmd.taxes.length (cellsL taxE (getR bs).cmd.taxes) :: D :: R] k []) w) (fun _ => (0, undef)) [] [0, 0] (fun _ _ => false) hz9 (by kernel_rfl) (by kernel_rfl) (by kernel_rfl) ?_ (show Mem _ _ from hM9) ?_ ?_
        · exact ⟨fun _ _ _ => rfl, fun _ _ _ => rfl, trivial⟩
        ·
         refine ⟨?_, ?_, trivial⟩
         · exact op2 (a := 0) rfl fun e w ρ (hM : Mem _ w) E => res_ok (x_move rfl (E.o 10 _ rfl g10_9)) (goes_still rfl rfl hM)
         · exact op2 (a := 0) rfl fun e w ρ (hM : Mem _ w) E => res_ok (x_neq rfl (E.d 0 _ 55 rfl rfl rfl) (E.c _) rfl) (goes_still rfl rfl hM)
        ·
         intro e a10 w10 hz10 hd hG hO hM
         have hd10 := hd.trans hd9
         have g1_10 := (hO 1 rfl).trans g1_9
         have g9_10 := (hO 9 rfl).trans g9_9
         have g10_10 := (hO 10 rfl).trans g10_9
         have g56_10 : a10.tmps[56]? = some (.bool (!decide ((getE bs) = 0))) := hG 1 _ 56 rfl rfl
         have hM10 : Mem (boxC b9_1 (recCells (getR bs) (.slice aly ((getR bs).cmd.legs.length) cly) (.slice aty ((getR bs).cmd.taxes.length) cty)) :: rowC 36 3 (.slice aly ((getR bs).cmd.legs.length) cly) (getR bs).cmd.legs.length (cellsL legE (getR bs).cmd.legs) :: rowC 58 2 (.slice aty ((getR bs).cmd.taxes.length) cty) (getR bs).cmd.taxes.length (cellsL taxE (getR bs).cmd.taxes) :: D :: R) w10 := hM
         clear hM hG hO hd
         clear hz9 hd9 hM9 g1_9 g9_9 g10_9
         refine then_n ?_
         by_cases hG : (getE bs) = 0
         ·
          refine cond_f (g56_10.trans (by rw [decide_eq_true hG]; rfl)) ?_
          have hpg := put_of_get hin hG
          have hwx := hpg.1.i.w (Nat.le_trans hpg.1.s.legs (by decide)) (Nat.le_trans hpg.1.s.taxes (by decide))
          refine wp_skip ?_
          refine then_n ?_
          refine wp_seq ?_
          refine region_seq 84 (fun zz e => (#[.agg (recCells (getR bs) (.slice aly ((getR bs).cmd.legs.length) cly) (.slice aty ((getR bs).cmd.taxes.length) cty)), .tuple #[(e 0).2, .int .i64 0], .tuple #[(e 0).2, .int .i64 0], (e 0).2, .int .i64 0, (e 0).2, .int .i64 0] : Array Value).getD zz undef) (fun k e w => Mem (List.getD [boxC b9_1 (recCells (getR bs) (.slice aly ((getR bs).cmd.legs.length) cly) (.slice aty ((getR bs).cmd.taxes.length) cty)) :: rowC 36 3 (.slice aly ((getR bs).cmd.legs.length) cly) (getR bs).cmd.legs.length (cellsL legE (getR bs).cmd.legs) :: rowC 58 2 (.slice aty ((getR bs).cmd.taxes.length) cty) (getR bs).cmd.taxes.length (cellsL taxE (getR bs).cmd.taxes) :: D :: R, rowC 5 1 (e 0).2 bs.length (bs.map (.int .u8)) :: boxC b9_1 (recCells (getR bs) (.slice aly ((getR bs).cmd.legs.length) cly) (.slice aty ((getR bs).cmd.taxes.length) cty)) :: rowC 36 3 (.slice aly ((getR bs).cmd.legs.length) cly) (getR bs).cmd.legs.length (cellsL legE (getR bs).cmd.legs) :: rowC 58 2 (.slice aty ((getR bs).cmd.taxes.length) cty) (getR bs).cmd.taxes.length (cellsL taxE (getR bs).cmd.taxes) :: D :: R] k []) w) (fun _ => (0, undef)) [1] [0, 0, 1, 1, 1, 1, 1] (fun _ _ => false) hz10 (by kernel_rfl) (by kernel_rfl) (by kernel_rfl) ?_ (show Mem _ _ from hM10) ?_ ?_
          · exact ⟨fun _ _ _ => rfl, fun e e' h => congrArg (fun x : Rv => (.tuple #[x.2, .int .i64 0] : Value)) (h 0 (by decide)), fun e e' h => congrArg (fun x : Rv => (.tuple #[x.2, .int .i64 0] : Value)) (h 0 (by decide)), fun e e' h => congrArg (fun x : Rv => (x.2 : Value)) (h 0 (by decide)), fun _ _ _ => rfl, fun e e' h => congrArg (fun x : Rv => (x.2 : Value)) (h 0 (by decide)), fun _ _ _ => rfl, trivial⟩
          ·
           refine ⟨?_, ?_, ?_, ?_, ?_, ?_, ?_, trivial⟩
           · exact op2 (a := 0) rfl fun e w ρ (hM : Mem _ w) E => res_ok (x_loads rfl (E.o 9 _ rfl g9_10) (by kernel_rfl) (load_part (hM.box 0 rfl) [.int .u8 ((getR bs).kind), .int .u8 ((getR bs).cmd.kind), .int .u8 ((getR bs).cmd.tick.c), .int .u64 ((getR bs).cmd.tick.r), .int .u8 ((getR bs).cmd.at_), .string ((getR bs).cmd.name), .slice aly ((getR bs).cmd.legs.length) cly, .int .i64 ((getR bs).cmd.fare), .slice aty ((getR bs).cmd.taxes.length) cty, .int .i64 ((getR bs).cmd.penalty), .int .i64 ((getR bs).cmd.amount), .int .u8 ((getR bs).frm), .int .u64 ((getR bs).number), .int .u8 ((getR bs).msg.kind), .int .u8 ((getR bs).msg.tick.c), .int .u64 ((getR bs).msg.tick.r), .int .u8 ((getR bs).msg.at_), .int .u8 ((getR bs).msg.leg.c), .int .u16 ((getR bs).msg.leg.f), .int .u32 ((getR bs).msg.leg.x), .int .i64 ((getR bs).msg.value), .int .u8 ((getR bs).msg.status), .int .u32 ((getR bs).msg.nonce), .int .i64 ((getR bs).msg.amount), .int .i64 ((getR bs).msg.code)] rfl (Nat.le_of_ble_eq_true rfl) rfl)) (goes_still rfl rfl hM)
           ·
            refine op2 (a := 0) rfl fun e w ρ (hM : Mem _ w) E => ?_
            have e68 : ρ (.tmp 68) = .agg (recCells (getR bs) (.slice aly ((getR bs).cmd.legs.length) cly) (.slice aty ((getR bs).cmd.taxes.length) cty)) := E.d 0 _ 68 rfl rfl rfl
            refine res_in (x_call (args := #[.agg (recCells (getR bs) (.slice aly ((getR bs).cmd.legs.length) cly) (.slice aty ((getR bs).cmd.taxes.length) cty))]) rfl rfl (E.f _) (by simp [e68]) (by kernel_rfl)) ?_
            refine (put_at (getR bs) aly aty cly cty _ _ hM (Reads.own 1 rfl) (Reads.own 2 rfl) hwx).mono ?_
            rintro e' w' ⟨v', he, hm⟩
            rw [hpg.2.1] at he
            rw [hpg.2.2] at hm
            subst he
            exact ⟨_, rfl, goes_tick rfl (0, v') rfl hm⟩
           · exact op2 (a := 1) rfl fun e w ρ (hM : Mem _ w) E => res_ok (x_move rfl (E.d 1 _ 69 rfl rfl rfl)) (goes_still rfl rfl hM)
           ·
            refine op2 (a := 1) rfl fun e w ρ (hM : Mem _ w) E => ?_
            have e67 : ρ (.tmp 67) = .tuple #[(e 0).2, .int .i64 0] := E.d 2 _ 67 rfl rfl rfl
            exact res_ok (x_extract rfl (e67) rfl) (goes_still rfl rfl hM)
           ·
            refine op2 (a := 1) rfl fun e w ρ (hM : Mem _ w) E => ?_
            have e67 : ρ (.tmp 67) = .tuple #[(e 0).2, .int .i64 0] := E.d 2 _ 67 rfl rfl rfl
            exact res_ok (x_extract rfl (e67) rfl) (goes_still rfl rfl hM)
           · exact op2 (a := 1) rfl fun e w ρ (hM : Mem _ w) E => res_ok (x_assign rfl (E.d 3 _ 70 rfl rfl rfl)) (goes_still rfl rfl hM)
           · exact op2 (a := 1) rfl fun e w ρ (hM : Mem _ w) E => res_ok (x_assign rfl (E.d 4 _ 71 rfl rfl rfl)) (goes_still rfl rfl hM)
          ·
           intro e a11 w11 hz11 hd hG hO hM
           have hd11 := hd.trans hd10
           have g1_11 := (hO 1 rfl).trans g1_10
           have g11_11 : a11.tmps[11]? = some ((e 0).2) := hG 5 _ 11 rfl rfl
           have g12_11 : a11.tmps[12]? = some (.int .i64 0) := hG 6 _ 12 rfl rfl
           have hM11 : Mem (rowC 5 1 (e 0).2 bs.length (bs.map (.int .u8)) :: boxC b9_1 (recCells (getR bs) (.slice aly ((getR bs).cmd.legs.length) cly) (.slice aty ((getR bs).cmd.taxes.length) cty)) :: rowC 36 3 (.slice aly ((getR bs).cmd.legs.length) cly) (getR bs).cmd.legs.length (cellsL legE (getR bs).cmd.legs) :: rowC 58 2 (.slice aty ((getR bs).cmd.taxes.length) cty) (getR bs).cmd.taxes.length (cellsL taxE (getR bs).cmd.taxes) :: D :: R) w11 := hM
           clear hM hG hO hd
           clear hz10 hd10 hM10 g1_10 g9_10 g10_10 g56_10
           generalize (e 0).2 = v11_0 at *
           refine then_n ?_
           refine wp_seq ?_
           refine region_seq 84 (fun zz e => (#[.int .i64 0, .bool true, .bool true, v11_0, .string (ofBytes bs), .slice ab bs.length cb, .string (ofBytes bs), .bool true, .bool true, .bool true, .bool true, .bool true, .bool true] : Array Value).getD zz undef) (fun k e w => Mem (List.getD [rowC 5 1 v11_0 bs.length (bs.map (.int .u8)) :: boxC b9_1 (recCells (getR bs) (.slice aly ((getR bs).cmd.legs.length) cly) (.slice aty ((getR bs).cmd.taxes.length) cty)) :: rowC 36 3 (.slice aly ((getR bs).cmd.legs.length) cly) (getR bs).cmd.legs.length (cellsL legE (getR bs).cmd.legs) :: rowC 58 2 (.slice aty ((getR bs).cmd.taxes.length) cty) (getR bs).cmd.taxes.length (cellsL taxE (getR bs).cmd.taxes) :: D :: R] k []) w) (fun _ => (0, undef)) [] [0, 0, 0, 0, 0, 0, 0, 0, 0, 0, 0, 0, 0] (fun _ _ => false) hz11 (by kernel_rfl) (by kernel_rfl) (by kernel_rfl) ?_ (show Mem _ _ from hM11) ?_ ?_
           · exact ⟨fun _ _ _ => rfl, fun _ _ _ => rfl, fun _ _ _ => rfl, fun _ _ _ => rfl, fun _ _ _ => rfl, fun _ _ _ => rfl, fun _ _ _ => rfl, fun _ _ _ => rfl, fun _ _ _ => rfl, fun _ _ _ => rfl, fun _ _ _ => rfl, fun _ _ _ => rfl, fun _ _ _ => rfl, trivial⟩
           ·
            refine ⟨?_, ?_, ?_, ?_, ?_, ?_, ?_, ?_, ?_, ?_, ?_, ?_, ?_, trivial⟩
            · exact op2 (a := 0) rfl fun e w ρ (hM : Mem _ w) E => res_ok (x_move rfl (E.o 12 _ rfl g12_11)) (goes_still rfl rfl hM)
            · exact op2 (a := 0) rfl fun e w ρ (hM : Mem _ w) E => res_ok (x_eql rfl (E.d 0 _ 72 rfl rfl rfl) (E.c _) (by decide)) (goes_still rfl rfl hM)
            · exact op2 (a := 0) rfl fun e w ρ (hM : Mem _ w) E => res_ok (x_move rfl (E.d 1 _ 73 rfl rfl rfl)) (goes_still rfl rfl hM)
            · exact op1 (a := 0) rfl fun e w ρ (hM : Mem _ w) E => (if_pos rfl).mpr (res_ok (x_move rfl (E.o 11 _ rfl g11_11)) (goes_still rfl rfl hM))
            ·
             refine op1 (a := 0) rfl fun e w ρ (hM : Mem _ w) E => ?_
             have e75 : ρ (.tmp 75) = v11_0 := E.d 3 _ 75 rfl rfl rfl
             refine (if_pos rfl).mpr ?_
             obtain ⟨a', c', hv, hrw, -⟩ := (hM.owns 0 rfl).row
             exact res_ok (x_convert rfl (e75.trans hv) (run_ofBytes (xs := bs) Try.underlying47 Try.underlying5 Try.underlying9 rfl hrw)) (goes_still rfl rfl hM)
            · exact op1 (a := 0) rfl fun e w ρ (hM : Mem _ w) E => (if_pos rfl).mpr (res_ok (x_move rfl (E.o 1 _ rfl g1_11)) (goes_still rfl rfl hM))
            ·
             refine op1 (a := 0) rfl fun e w ρ (hM : Mem _ w) E => ?_
             have e77 : ρ (.tmp 77) = .slice ab bs.length cb := E.d 5 _ 77 rfl rfl rfl
             refine (if_pos rfl).mpr ?_
             exact res_ok (x_convert rfl (e77) (run_ofBytes (xs := bs) Try.underlying47 Try.underlying5 Try.underlying9 rfl (rb.row hM 4 rfl))) (goes_still rfl rfl hM)
            ·
             refine op1 (a := 0) rfl fun e w ρ (hM : Mem _ w) E => ?_
             have e76 : ρ (.tmp 76) = .string (ofBytes bs) := E.d 4 _ 76 rfl rfl rfl
             have e78 : ρ (.tmp 78) = .string (ofBytes bs) := E.d 6 _ 78 rfl rfl rfl
             refine (if_pos rfl).mpr ?_
             exact res_ok (x_eqS rfl (e76) (e78) (decide_eq_true rfl)) (goes_still rfl rfl hM)
            ·
             refine op2 (a := 0) rfl fun e w ρ (hM : Mem _ w) E => ?_
             have e74 : ρ (.tmp 74) = .bool true := E.d 2 _ 74 rfl rfl rfl
             have e79 : ρ (.tmp 79) = .bool true := E.d 7 _ 79 rfl rfl rfl
             exact res_ok (x_pick rfl (e74) (e79)) (goes_still rfl rfl hM)
            · exact op2 (a := 0) rfl fun e w ρ (hM : Mem _ w) E => res_ok (x_move rfl (E.d 8 _ 80 rfl rfl rfl)) (goes_still rfl rfl hM)
            ·
             refine op1 (a := 0) rfl fun e w ρ (hM : Mem _ w) E => ?_
             refine (if_pos rfl).mpr ?_
             refine res_in (x_call (args := #[]) rfl rfl (E.f _) (by simp) (by kernel_rfl)) ?_
             refine (puts_at _ _ hM).mono ?_
             rintro e' w' ⟨rfl, hm⟩
             exact ⟨_, rfl, goes_still rfl rfl (hm)⟩
            ·
             refine op2 (a := 0) rfl fun e w ρ (hM : Mem _ w) E => ?_
             have e81 : ρ (.tmp 81) = .bool true := E.d 9 _ 81 rfl rfl rfl
             have e82 : ρ (.tmp 82) = .bool true := E.d 10 _ 82 rfl rfl rfl
             exact res_ok (x_pick rfl (e81) (e82)) (goes_still rfl rfl hM)
            · exact op2 (a := 0) rfl fun e w ρ (hM : Mem _ w) E => res_ok (x_assign rfl (E.d 11 _ 83 rfl rfl rfl)) (goes_still rfl rfl hM)
           ·
            intro e a12 w12 hz12 hd hG hO hM
            have hd12 := hd.trans hd11
            have g4_12 : a12.tmps[4]? = some (.bool true) := hG 12 _ 4 rfl rfl
            have hM12 : Mem (rowC 5 1 v11_0 bs.length (bs.map (.int .u8)) :: boxC b9_1 (recCells (getR bs) (.slice aly ((getR bs).cmd.legs.length) cly) (.slice aty ((getR bs).cmd.taxes.length) cty)) :: rowC 36 3 (.slice aly ((getR bs).cmd.legs.length) cly) (getR bs).cmd.legs.length (cellsL legE (getR bs).cmd.legs) :: rowC 58 2 (.slice aty ((getR bs).cmd.taxes.length) cty) (getR bs).cmd.taxes.length (cellsL taxE (getR bs).cmd.taxes) :: D :: R) w12 := hM
            clear hM hG hO hd
            clear hz11 hd11 hM11 g1_11 g11_11 g12_11
            refine then_n ?_
            refine wp_ret ?_
            refine ret_1 Try.results5 hd12 g4_12 ?_
            exact ⟨rfl, (((((hM12.erase 3 rfl).erase 2 rfl).erase 1 rfl).erase 0 rfl).front 0 rfl)⟩
         ·
          refine cond_t (g56_10.trans (by rw [decide_eq_false hG]; rfl)) ?_
          have hgb := get_bad hG
          have hge := hgb.1
          refine wp_seq ?_
          refine region_seq 84 (fun zz e => (#[.agg (recCells (getR bs) (.slice aly ((getR bs).cmd.legs.length) cly) (.slice aty ((getR bs).cmd.taxes.length) cty)), .agg #[.int .u8 0, .int .u8 0, .int .u8 0, .int .u64 0, .int .u8 0, .string ByteArray.empty, .slice none 0 0, .int .i64 0, .slice none 0 0, .int .i64 0, .int .i64 0, .int .u8 0, .int .u64 0, .int .u8 0, .int .u8 0, .int .u64 0, .int .u8 0, .int .u8 0, .int .u16 0, .int .u32 0, .int .i64 0, .int .u8 0, .int .u32 0, .int .i64 0, .int .i64 0], .bool true, .bool true, .int .i64 (getE bs), .bool true, .bool true, .bool true, .bool true, .bool true, .bool true] : Array Value).getD zz undef) (fun k e w => Mem (List.getD [boxC b9_1 (recCells (getR bs) (.slice aly ((getR bs).cmd.legs.length) cly) (.slice aty ((getR bs).cmd.taxes.length) cty)) :: rowC 36 3 (.slice aly ((getR bs).cmd.legs.length) cly) (getR bs).cmd.legs.length (cellsL legE (getR bs).cmd.legs) :: rowC 58 2 (.slice aty ((getR bs).cmd.taxes.length) cty) (getR bs).cmd.taxes.length (cellsL taxE (getR bs).cmd.taxes) :: D :: R] k []) w) (fun _ => (0, undef)) [] [0, 0, 0, 0, 0, 0, 0, 0, 0, 0, 0] (fun _ _ => false) hz10 (by kernel_rfl) (by kernel_rfl) (by kernel_rfl) ?_ (show Mem _ _ from hM10) ?_ ?_
          · exact ⟨fun _ _ _ => rfl, fun _ _ _ => rfl, fun _ _ _ => rfl, fun _ _ _ => rfl, fun _ _ _ => rfl, fun _ _ _ => rfl, fun _ _ _ => rfl, fun _ _ _ => rfl, fun _ _ _ => rfl, fun _ _ _ => rfl, fun _ _ _ => rfl, trivial⟩
          ·
           refine ⟨?_, ?_, ?_, ?_, ?_, ?_, ?_, ?_, ?_, ?_, ?_, trivial⟩
           · exact op2 (a := 0) rfl fun e w ρ (hM : Mem _ w) E => res_ok (x_loads rfl (E.o 9 _ rfl g9_10) (by kernel_rfl) (load_part (hM.box 0 rfl) [.int .u8 ((getR bs).kind), .int .u8 ((getR bs).cmd.kind), .int .u8 ((getR bs).cmd.tick.c), .int .u64 ((getR bs).cmd.tick.r), .int .u8 ((getR bs).cmd.at_), .string ((getR bs).cmd.name), .slice aly ((getR bs).cmd.legs.length) cly, .int .i64 ((getR bs).cmd.fare), .slice aty ((getR bs).cmd.taxes.length) cty, .int .i64 ((getR bs).cmd.penalty), .int .i64 ((getR bs).cmd.amount), .int .u8 ((getR bs).frm), .int .u64 ((getR bs).number), .int .u8 ((getR bs).msg.kind), .int .u8 ((getR bs).msg.tick.c), .int .u64 ((getR bs).msg.tick.r), .int .u8 ((getR bs).msg.at_), .int .u8 ((getR bs).msg.leg.c), .int .u16 ((getR bs).msg.leg.f), .int .u32 ((getR bs).msg.leg.x), .int .i64 ((getR bs).msg.value), .int .u8 ((getR bs).msg.status), .int .u32 ((getR bs).msg.nonce), .int .i64 ((getR bs).msg.amount), .int .i64 ((getR bs).msg.code)] rfl (Nat.le_of_ble_eq_true rfl) rfl)) (goes_still rfl rfl hM)
           ·
            refine op2 (a := 0) rfl fun e w ρ (hM : Mem _ w) E => ?_
            exact res_ok (v := .agg #[.int .u8 0, .int .u8 0, .int .u8 0, .int .u64 0, .int .u8 0, .string ByteArray.empty, .slice none 0 0, .int .i64 0, .slice none 0 0, .int .i64 0, .int .i64 0, .int .u8 0, .int .u64 0, .int .u8 0, .int .u8 0, .int .u64 0, .int .u8 0, .int .u8 0, .int .u16 0, .int .u32 0, .int .i64 0, .int .u8 0, .int .u32 0, .int .i64 0, .int .i64 0]) (by simp [go_sem, execOp, Instr.build, Instr.fill, E.c, E.f] <;> rfl) (goes_still rfl rfl hM)
           ·
            refine op2 (a := 0) rfl fun e w ρ (hM : Mem _ w) E => ?_
            have e57 : ρ (.tmp 57) = .agg (recCells (getR bs) (.slice aly ((getR bs).cmd.legs.length) cly) (.slice aty ((getR bs).cmd.taxes.length) cty)) := E.d 0 _ 57 rfl rfl rfl
            have e58 : ρ (.tmp 58) = .agg #[.int .u8 0, .int .u8 0, .int .u8 0, .int .u64 0, .int .u8 0, .string ByteArray.empty, .slice none 0 0, .int .i64 0, .slice none 0 0, .int .i64 0, .int .i64 0, .int .u8 0, .int .u64 0, .int .u8 0, .int .u8 0, .int .u64 0, .int .u8 0, .int .u8 0, .int .u16 0, .int .u32 0, .int .i64 0, .int .u8 0, .int .u32 0, .int .i64 0, .int .i64 0] := E.d 1 _ 58 rfl rfl rfl
            refine res_in (x_call (args := #[.agg (recCells (getR bs) (.slice aly ((getR bs).cmd.legs.length) cly) (.slice aty ((getR bs).cmd.taxes.length) cty)), .agg #[.int .u8 0, .int .u8 0, .int .u8 0, .int .u64 0, .int .u8 0, .string ByteArray.empty, .slice none 0 0, .int .i64 0, .slice none 0 0, .int .i64 0, .int .i64 0, .int .u8 0, .int .u64 0, .int .u8 0, .int .u8 0, .int .u64 0, .int .u8 0, .int .u8 0, .int .u16 0, .int .u32 0, .int .i64 0, .int .u8 0, .int .u32 0, .int .i64 0, .int .i64 0]]) rfl rfl (E.f _) (by simp [e57, e58]) (by kernel_rfl)) ?_
            refine (rsame_at (getR bs) rec0 aly aty none none cly cty 0 0 _ _ hM (Reads.own 1 rfl) (Reads.own 2 rfl) ⟨by rw [hgb.2]; decide, by rw [hgb.2]; decide⟩ Reads.nil Reads.nil ⟨by decide, by decide⟩).mono ?_
            rintro e' w' ⟨he, hm⟩
            rw [show sameW (getR bs) rec0 = true from by rw [hgb.2]; exact sameW_self _] at he
            subst he
            exact ⟨_, rfl, goes_still rfl rfl (hm)⟩
           · exact op2 (a := 0) rfl fun e w ρ (hM : Mem _ w) E => res_ok (x_move rfl (E.d 2 _ 59 rfl rfl rfl)) (goes_still rfl rfl hM)
           · exact op1 (a := 0) rfl fun e w ρ (hM : Mem _ w) E => (if_pos rfl).mpr (res_ok (x_move rfl (E.o 10 _ rfl g10_10)) (goes_still rfl rfl hM))
           · exact op1 (a := 0) rfl fun e w ρ (hM : Mem _ w) E => (if_pos rfl).mpr (res_ok (x_eql rfl (E.d 4 _ 61 rfl rfl rfl) (E.c _) (decide_eq_true hge)) (goes_still rfl rfl hM))
           ·
            refine op2 (a := 0) rfl fun e w ρ (hM : Mem _ w) E => ?_
            have e60 : ρ (.tmp 60) = .bool true := E.d 3 _ 60 rfl rfl rfl
            have e62 : ρ (.tmp 62) = .bool true := E.d 5 _ 62 rfl rfl rfl
            exact res_ok (x_pick rfl (e60) (e62)) (goes_still rfl rfl hM)
           · exact op2 (a := 0) rfl fun e w ρ (hM : Mem _ w) E => res_ok (x_move rfl (E.d 6 _ 63 rfl rfl rfl)) (goes_still rfl rfl hM)
           ·
            refine op1 (a := 0) rfl fun e w ρ (hM : Mem _ w) E => ?_
            refine (if_pos rfl).mpr ?_
            refine res_in (x_call (args := #[]) rfl rfl (E.f _) (by simp) (by kernel_rfl)) ?_
            refine (puts_at _ _ hM).mono ?_
            rintro e' w' ⟨rfl, hm⟩
            exact ⟨_, rfl, goes_still rfl rfl (hm)⟩
           ·
            refine op2 (a := 0) rfl fun e w ρ (hM : Mem _ w) E => ?_
            have e64 : ρ (.tmp 64) = .bool true := E.d 7 _ 64 rfl rfl rfl
            have e65 : ρ (.tmp 65) = .bool true := E.d 8 _ 65 rfl rfl rfl
            exact res_ok (x_pick rfl (e64) (e65)) (goes_still rfl rfl hM)
           · exact op2 (a := 0) rfl fun e w ρ (hM : Mem _ w) E => res_ok (x_assign rfl (E.d 9 _ 66 rfl rfl rfl)) (goes_still rfl rfl hM)
          ·
           intro e a13 w13 hz13 hd hG hO hM
           have hd13 := hd.trans hd10
           have g1_13 := (hO 1 rfl).trans g1_10
           have g4_13 : a13.tmps[4]? = some (.bool true) := hG 10 _ 4 rfl rfl
           have g9_13 := (hO 9 rfl).trans g9_10
           have hM13 : Mem (boxC b9_1 (recCells (getR bs) (.slice aly ((getR bs).cmd.legs.length) cly) (.slice aty ((getR bs).cmd.taxes.length) cty)) :: rowC 36 3 (.slice aly ((getR bs).cmd.legs.length) cly) (getR bs).cmd.legs.length (cellsL legE (getR bs).cmd.legs) :: rowC 58 2 (.slice aty ((getR bs).cmd.taxes.length) cty) (getR bs).cmd.taxes.length (cellsL taxE (getR bs).cmd.taxes) :: D :: R) w13 := hM
           clear hM hG hO hd
           clear hz10 hd10 hM10 g1_10 g9_10 g10_10 g56_10
           refine then_n ?_
           refine wp_ret ?_
           refine then_r ?_
           refine ret_1 Try.results5 hd13 g4_13 ?_
           exact ⟨rfl, ((((hM13.erase 2 rfl).erase 1 rfl).erase 0 rfl).front 0 rfl)⟩
   ·
    refine cond_t (g19_2.trans (by rw [hc1])) ?_
    refine wp_seq ?_
    refine region_seq 84 (fun zz e => (#[.bool true] : Array Value).getD zz undef) (fun k e w => Mem (List.getD [boxC b1_0 (recCells r (.slice al r.cmd.legs.length cl) (.slice at1 r.cmd.taxes.length ct)) :: D :: R] k []) w) (fun _ => (0, undef)) [] [0] (fun _ _ => false) hz2 (by kernel_rfl) (by kernel_rfl) (by kernel_rfl) ?_ (show Mem _ _ from hM2) ?_ ?_
    · exact ⟨fun _ _ _ => rfl, trivial⟩
    ·
     refine ⟨?_, trivial⟩
     · exact op2 (a := 0) rfl fun e w ρ (hM : Mem _ w) E => res_ok (x_assign rfl (E.c _)) (goes_still rfl rfl hM)
    ·
     intro e a14 w14 hz14 hd hG hO hM
     have hd14 := hd.trans hd2
     have g1_14 := (hO 1 rfl).trans g1_2
     have g2_14 := (hO 2 rfl).trans g2_2
     have g4_14 : a14.tmps[4]? = some (.bool true) := hG 0 _ 4 rfl rfl
     have hM14 : Mem (boxC b1_0 (recCells r (.slice al r.cmd.legs.length cl) (.slice at1 r.cmd.taxes.length ct)) :: D :: R) w14 := hM
     clear hM hG hO hd
     clear hz2 hd2 hM2 g1_2 g2_2 g4_2 g19_2
     refine then_n ?_
     refine wp_ret ?_
     refine then_r ?_
     refine ret_1 Try.results5 hd14 g4_14 ?_
     exact ⟨rfl, ((hM14.erase 0 rfl).front 0 rfl)⟩
theorem back_any (r : RecV) (al at1 : Option Addr) (cl ct : Nat) (ab : Option Addr) (n cb : Nat) (zs : List Int) (w : World) (hl : Row w al (cellsL legE r.cmd.legs)) (ht : Row w at1 (cellsL taxE r.cmd.taxes)) (hi : RecIn r) (hb : IsRow .u8 w ab n cb zs) :
  Calls Try.prog 5 #[.agg (recCells r (.slice al r.cmd.legs.length cl) (.slice at1 r.cmd.taxes.length ct)), .slice ab n cb] w fun e w' => e = .returned (.bool true) ∧ Below w.heap.size w w' := by
 obtain ⟨bs, h1, h4, h2, h3, h5, h6⟩ := isRow_bytes hb
 subst h1
 exact (back_at r al at1 cl ct ab cb bs (oldC w) [] w (Mem.old w) (rd_old hl) (rd_old ht) hi (rd_old h4) h2 h5 h6 h3).mono fun e w' h => ⟨h.1, h.2.below 0 rfl⟩
end Go.Proofs.Ytfcjmpgbohgoeaa
