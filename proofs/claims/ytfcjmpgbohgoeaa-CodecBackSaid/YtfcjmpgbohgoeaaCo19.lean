/- CODEC: which records may be, and which are too long. -/
import Derived.Test.YtfcjmpgbohgoeaaCo16
namespace Go.Proofs.Ytfcjmpgbohgoeaa
open Go.RowKit Go.Lib Go.Tk Go.Shelf Go.Vc
set_option linter.unusedVariables false
set_option linter.unusedSimpArgs false
attribute [-go_sem] loadCellsFrom
def emptyV (c : CmdV) : Bool := decide (c.kind = 0) && tickB c.tick ⟨0, 0⟩ && decide (c.at_ = 0) && decide (c.amount = 0) && decide (c.name = ByteArray.empty) && decide ((c.legs.length : Int) = 0) && decide (c.fare = 0) && decide ((c.taxes.length : Int) = 0) && decide (c.penalty = 0)
theorem emptyV_iff (c : CmdV) : emptyV c = true ↔ c = cmd0 := by
 obtain ⟨c1, c2, c3, c4, c5, c6, c7, c8, c9⟩ := c
 simp only [emptyV, cmd0, Bool.and_eq_true, decide_eq_true_eq, tickB_iff, CmdV.mk.injEq]
 constructor
 ·
  rintro ⟨⟨⟨⟨⟨⟨⟨⟨h1, h2⟩, h3⟩, h4⟩, h5⟩, h6⟩, h7⟩, h8⟩, h9⟩
  exact ⟨h1, h2, h3, h5, List.length_eq_zero_iff.1 (by omega), h7, List.length_eq_zero_iff.1 (by omega), h9, h4⟩
 ·
  rintro ⟨h1, h2, h3, h5, h6, h7, h8, h9, h4⟩
  subst h6; subst h8
  exact ⟨⟨⟨⟨⟨⟨⟨⟨h1, h2⟩, h3⟩, h4⟩, h5⟩, rfl⟩, h7⟩, rfl⟩, h9⟩
def mayV (r : RecV) : Bool := if r.kind = 1 then (decide (r.frm = 0) && decide (r.number = 0)) && msgB r.msg msg0 else if r.kind = 2 then emptyV r.cmd else if r.kind = 3 then emptyV r.cmd && msgB r.msg msg0 else false
def longS (r : RecV) : Bool := (decide ((r.cmd.name.size : Int) > 32) || decide ((r.cmd.legs.length : Int) > 4)) || decide ((r.cmd.taxes.length : Int) > 4)
def longB (r : RecV) : Bool := longS r || r.cmd.taxes.any longT
theorem longB_iff (r : RecV) : longB r = true ↔ longV r := by
 simp only [longB, longS, longV, Bool.or_eq_true, decide_eq_true_eq, or_assoc]
theorem mayV_iff (r : RecV) : mayV r = true ↔ (1 ≤ r.kind ∧ r.kind ≤ 3) ∧ cutV r = r := by
 obtain ⟨k, c, f, n, m⟩ := r
 unfold mayV cutV
 by_cases h1 : k = 1
 ·
  subst h1
  simp [msgB_iff]
  constructor
  · rintro ⟨⟨h1, h2⟩, h3⟩; exact ⟨h1.symm, h2.symm, h3.symm⟩
  · rintro ⟨h1, h2, h3⟩; exact ⟨⟨h1.symm, h2.symm⟩, h3.symm⟩
 ·
  by_cases h2 : k = 2
  ·
   subst h2
   simp [emptyV_iff]
   exact ⟨fun h => h.symm, fun h => h.symm⟩
  ·
   by_cases h3 : k = 3
   ·
    subst h3
    simp [emptyV_iff, msgB_iff]
    constructor
    · rintro ⟨h1, h2⟩; exact ⟨h1.symm, h2.symm⟩
    · rintro ⟨h1, h2⟩; exact ⟨h1.symm, h2.symm⟩
   · simp [h1, h2, h3]; omega
theorem putE_iff (r : RecV) : decide (putE r = 0) = (mayV r && !longB r) := by
 rw [Bool.eq_iff_iff, decide_eq_true_eq, Bool.and_eq_true, mayV_iff, Bool.not_eq_true', ← Bool.not_eq_true, longB_iff]
 constructor
 ·
  intro h
  obtain ⟨h1, h2, h3⟩ := put_ok h
  exact ⟨⟨h1, h2⟩, h3⟩
 ·
  rintro ⟨⟨h1, h2⟩, h3⟩
  unfold putE
  rw [if_neg, if_neg h3]
  rintro (h | h | h)
  · omega
  · omega
  · rw [h2, (sameV_iff r r).2 rfl] at h; cases h
set_option maxRecDepth 100000 in
set_option maxHeartbeats 8000000 in
theorem empty_at (c : CmdV) (al at1 : Option Addr) (cl ct : Nat) (R : List Chunk) (w : World) (hM : Mem R w) :
  Calls Try.prog 36 #[.agg #[.int .u8 c.kind, .int .u8 c.tick.c, .int .u64 c.tick.r, .int .u8 c.at_, .string c.name, .slice al c.legs.length cl, .int .i64 c.fare, .slice at1 c.taxes.length ct, .int .i64 c.penalty, .int .i64 c.amount]] w fun e w' => e = .returned (.bool (emptyV c)) ∧ Mem R w' := by
 refine enter Try.func36 rfl Try.ntmps36 (Nat.le_of_ble_eq_true rfl) ?_
 intro a0 hz0 hd0 hg0
 have g0_0 : a0.tmps[0]? = some (.agg #[.int .u8 c.kind, .int .u8 c.tick.c, .int .u64 c.tick.r, .int .u8 c.at_, .string c.name, .slice al c.legs.length cl, .int .i64 c.fare, .slice at1 c.taxes.length ct, .int .i64 c.penalty, .int .i64 c.amount]) := hg0 0 _ rfl
 clear hg0
 have hM0 : Mem (R) _ := hM
 refine wp_seq ?_
 refine region_seq 52 (fun zz e => (#[.pointer (some ⟨(e 0).1, 0, none⟩), .bool false] : Array Value).getD zz undef) (fun k e w => Mem (List.getD [R, boxC ((e 0).1) #[.int .u8 c.kind, .int .u8 c.tick.c, .int .u64 c.tick.r, .int .u8 c.at_, .string c.name, .slice al c.legs.length cl, .int .i64 c.fare, .slice at1 c.taxes.length ct, .int .i64 c.penalty, .int .i64 c.amount] :: R] k []) w) (fun _ => (0, undef)) [0] [0, 1] (fun _ _ => false) hz0 (by kernel_rfl) (by kernel_rfl) (by kernel_rfl) ?_ (show Mem _ _ from hM0) ?_ ?_
 · exact ⟨fun e e' h => congrArg (fun x : Rv => (.pointer (some ⟨x.1, 0, none⟩) : Value)) (h 0 (by decide)), fun _ _ _ => rfl, trivial⟩
 ·
  refine ⟨?_, ?_, trivial⟩
  ·
   refine op2 (a := 0) rfl fun e w ρ (hM : Mem _ w) E => ?_
   have e0 : ρ (.tmp 0) = .agg #[.int .u8 c.kind, .int .u8 c.tick.c, .int .u64 c.tick.r, .int .u8 c.at_, .string c.name, .slice al c.legs.length cl, .int .i64 c.fare, .slice at1 c.taxes.length ct, .int .i64 c.penalty, .int .i64 c.amount] := E.o 0 _ rfl g0_0
   exact res_ok (x_box rfl (e0)) (goes_tick rfl (w.heap.size, undef) rfl (hM.alloc _ _))
  · exact op2 (a := 1) rfl fun e w ρ (hM : Mem _ w) E => res_ok (x_assign rfl (E.c _)) (goes_still rfl rfl hM)
 ·
  intro e a1 w1 hz1 hd hG hO hM
  have hd1 := hd.trans hd0
  have g1_1 : a1.tmps[1]? = some (.pointer (some ⟨(e 0).1, 0, none⟩)) := hG 0 _ 1 rfl rfl
  have g2_1 : a1.tmps[2]? = some (.bool false) := hG 1 _ 2 rfl rfl
  have hM1 : Mem (boxC ((e 0).1) #[.int .u8 c.kind, .int .u8 c.tick.c, .int .u64 c.tick.r, .int .u8 c.at_, .string c.name, .slice al c.legs.length cl, .int .i64 c.fare, .slice at1 c.taxes.length ct, .int .i64 c.penalty, .int .i64 c.amount] :: R) w1 := hM
  clear hM hG hO hd
  clear hz0 hd0 hM0 g0_0
  generalize (e 0).1 = b1_0 at *
  refine then_n ?_
  refine wp_seq ?_
  refine region_seq 52 (fun zz e => (#[.pointer (some ⟨b1_0, 4, none⟩), .agg #[.string c.name, .slice al c.legs.length cl, .int .i64 c.fare, .slice at1 c.taxes.length ct, .int .i64 c.penalty], .pointer (some ⟨(e 0).1, 0, none⟩), undef] : Array Value).getD zz undef) (fun k e w => Mem (List.getD [boxC b1_0 #[.int .u8 c.kind, .int .u8 c.tick.c, .int .u64 c.tick.r, .int .u8 c.at_, .string c.name, .slice al c.legs.length cl, .int .i64 c.fare, .slice at1 c.taxes.length ct, .int .i64 c.penalty, .int .i64 c.amount] :: R, boxC ((e 0).1) #[.string ByteArray.empty, .slice none 0 0, .int .i64 0, .slice none 0 0, .int .i64 0] :: boxC b1_0 #[.int .u8 c.kind, .int .u8 c.tick.c, .int .u64 c.tick.r, .int .u8 c.at_, .string c.name, .slice al c.legs.length cl, .int .i64 c.fare, .slice at1 c.taxes.length ct, .int .i64 c.penalty, .int .i64 c.amount] :: R, boxC ((e 0).1) #[.string c.name, .slice al c.legs.length cl, .int .i64 c.fare, .slice at1 c.taxes.length ct, .int .i64 c.penalty] :: boxC b1_0 #[.int .u8 c.kind, .int .u8 c.tick.c, .int .u64 c.tick.r, .int .u8 c.at_, .string c.name, .slice al c.legs.length cl, .int .i64 c.fare, .slice at1 c.taxes.length ct, .int .i64 c.penalty, .int .i64 c.amount] :: R] k []) w) (fun _ => (0, undef)) [2, 3] [0, 0, 0, 1] (fun _ _ => false) hz1 (by kernel_rfl) (by kernel_rfl) (by kernel_rfl) ?_ (show Mem _ _ from hM1) ?_ ?_
  · exact ⟨fun _ _ _ => rfl, fun _ _ _ => rfl, fun e e' h => congrArg (fun x : Rv => (.pointer (some ⟨x.1, 0, none⟩) : Value)) (h 0 (by decide)), fun _ _ _ => rfl, trivial⟩
  ·
   refine ⟨?_, ?_, ?_, ?_, trivial⟩
   · exact op2 (a := 0) rfl fun e w ρ (hM : Mem _ w) E => res_ok (x_fieldAddr (off := 4) rfl (E.o 1 _ rfl g1_1) (by kernel_rfl) rfl) (goes_still rfl rfl hM)
   · exact op2 (a := 0) rfl fun e w ρ (hM : Mem _ w) E => res_ok (x_loads rfl (E.d 0 _ 4 rfl rfl rfl) (by kernel_rfl) (load_part (hM.box 0 rfl) [.string c.name, .slice al c.legs.length cl, .int .i64 c.fare, .slice at1 c.taxes.length ct, .int .i64 c.penalty] rfl (Nat.le_of_ble_eq_true rfl) rfl)) (goes_still rfl rfl hM)
   ·
    refine op2 (a := 0) rfl fun e w ρ (hM : Mem _ w) E => ?_
    exact res_ok (x_alloc (z := .agg #[.string ByteArray.empty, .slice none 0 0, .int .i64 0, .slice none 0 0, .int .i64 0]) rfl (by kernel_rfl)) (goes_tick rfl (w.heap.size, undef) rfl (hM.alloc _ _))
   ·
    refine op2 (a := 1) rfl fun e w ρ (hM : Mem _ w) E => ?_
    have e3 := E.d 2 _ 3 rfl rfl rfl
    have e5 := E.d 1 _ 5 rfl rfl rfl
    obtain ⟨w', hr, hm⟩ := Mem.store (P := Try.prog) hM 0 rfl 28 0 (.agg #[.string c.name, .slice al c.legs.length cl, .int .i64 c.fare, .slice at1 c.taxes.length ct, .int .i64 c.penalty]) [.string c.name, .slice al c.legs.length cl, .int .i64 c.fare, .slice at1 c.taxes.length ct, .int .i64 c.penalty] rfl (by kernel_rfl) (Nat.le_of_ble_eq_true rfl) (by rfl)
    exact res_st (x_store rfl (e3) (e5) hr) (goes_tick rfl (0, undef) rfl hm)
  ·
   intro e a2 w2 hz2 hd hG hO hM
   have hd2 := hd.trans hd1
   have g1_2 := (hO 1 rfl).trans g1_1
   have g2_2 := (hO 2 rfl).trans g2_1
   have g3_2 : a2.tmps[3]? = some (.pointer (some ⟨(e 0).1, 0, none⟩)) := hG 2 _ 3 rfl rfl
   have hM2 : Mem (boxC ((e 0).1) #[.string c.name, .slice al c.legs.length cl, .int .i64 c.fare, .slice at1 c.taxes.length ct, .int .i64 c.penalty] :: boxC b1_0 #[.int .u8 c.kind, .int .u8 c.tick.c, .int .u64 c.tick.r, .int .u8 c.at_, .string c.name, .slice al c.legs.length cl, .int .i64 c.fare, .slice at1 c.taxes.length ct, .int .i64 c.penalty, .int .i64 c.amount] :: R) w2 := hM
   clear hM hG hO hd
   clear hz1 hd1 hM1 g1_1 g2_1
   generalize (e 0).1 = b2_0 at *
   refine then_n ?_
   refine wp_seq ?_
   obtain ⟨z2_3, hz2_3⟩ : ∃ z : Bool, z = (decide (c.kind = 0)) := ⟨_, rfl⟩
   obtain ⟨z2_9, hz2_9⟩ : ∃ z : Bool, z = (z2_3 && (tickB c.tick ⟨0, 0⟩)) := ⟨_, rfl⟩
   obtain ⟨z2_14, hz2_14⟩ : ∃ z : Bool, z = (z2_9 && (decide (c.at_ = 0))) := ⟨_, rfl⟩
   obtain ⟨z2_19, hz2_19⟩ : ∃ z : Bool, z = (z2_14 && (decide (c.amount = 0))) := ⟨_, rfl⟩
   obtain ⟨z2_24, hz2_24⟩ : ∃ z : Bool, z = (z2_19 && (decide (c.name = ByteArray.empty))) := ⟨_, rfl⟩
   obtain ⟨z2_30, hz2_30⟩ : ∃ z : Bool, z = (z2_24 && (decide ((c.legs.length : Int) = 0))) := ⟨_, rfl⟩
   obtain ⟨z2_35, hz2_35⟩ : ∃ z : Bool, z = (z2_30 && (decide (c.fare = 0))) := ⟨_, rfl⟩
   obtain ⟨z2_41, hz2_41⟩ : ∃ z : Bool, z = (z2_35 && (decide ((c.taxes.length : Int) = 0))) := ⟨_, rfl⟩
   refine region_seq 52 (fun zz e => (#[.pointer (some ⟨b1_0, 0, none⟩), .int .u8 c.kind, .bool (decide (c.kind = 0)), .bool z2_3, (gd z2_3 true (.pointer (some ⟨b1_0, 1, none⟩))), (gd z2_3 true (.agg #[.int .u8 c.tick.c, .int .u64 c.tick.r])), (gd z2_3 true (.agg #[.int .u8 0, .int .u64 0])), (gd z2_3 true (.bool (tickB c.tick ⟨0, 0⟩))), .bool (z2_3 && (tickB c.tick ⟨0, 0⟩)), .bool z2_9, (gd z2_9 true (.pointer (some ⟨b1_0, 3, none⟩))), (gd z2_9 true (.int .u8 c.at_)), (gd z2_9 true (.bool (decide (c.at_ = 0)))), .bool (z2_9 && (decide (c.at_ = 0))), .bool z2_14, (gd z2_14 true (.pointer (some ⟨b1_0, 9, none⟩))), (gd z2_14 true (.int .i64 c.amount)), (gd z2_14 true (.bool (decide (c.amount = 0)))), .bool (z2_14 && (decide (c.amount = 0))), .bool z2_19, (gd z2_19 true (.pointer (some ⟨b2_0, 0, none⟩))), (gd z2_19 true (.string c.name)), (gd z2_19 true (.bool (decide (c.name = ByteArray.empty)))), .bool (z2_19 && (decide (c.name = ByteArray.empty))), .bool z2_24, (gd z2_24 true (.pointer (some ⟨b2_0, 1, none⟩))), (gd z2_24 true (.slice al c.legs.length cl)), (gd z2_24 true (.int .i64 (c.legs.length : Int))), (gd z2_24 true (.bool (decide ((c.legs.length : Int) = 0)))), .bool (z2_24 && (decide ((c.legs.length : Int) = 0))), .bool z2_30, (gd z2_30 true (.pointer (some ⟨b2_0, 2, none⟩))), (gd z2_30 true (.int .i64 c.fare)), (gd z2_30 true (.bool (decide (c.fare = 0)))), .bool (z2_30 && (decide (c.fare = 0))), .bool z2_35, (gd z2_35 true (.pointer (some ⟨b2_0, 3, none⟩))), (gd z2_35 true (.slice at1 c.taxes.length ct)), (gd z2_35 true (.int .i64 (c.taxes.length : Int))), (gd z2_35 true (.bool (decide ((c.taxes.length : Int) = 0)))), .bool (z2_35 && (decide ((c.taxes.length : Int) = 0))), .bool z2_41, (gd z2_41 true (.pointer (some ⟨b2_0, 4, none⟩))), (gd z2_41 true (.int .i64 c.penalty)), (gd z2_41 true (.bool (decide (c.penalty = 0)))), .bool (z2_41 && (decide (c.penalty = 0))), .bool (z2_41 && (decide (c.penalty = 0)))] : Array Value).getD zz undef) (fun k e w => Mem (List.getD [boxC b2_0 #[.string c.name, .slice al c.legs.length cl, .int .i64 c.fare, .slice at1 c.taxes.length ct, .int .i64 c.penalty] :: boxC b1_0 #[.int .u8 c.kind, .int .u8 c.tick.c, .int .u64 c.tick.r, .int .u8 c.at_, .string c.name, .slice al c.legs.length cl, .int .i64 c.fare, .slice at1 c.taxes.length ct, .int .i64 c.penalty, .int .i64 c.amount] :: R] k []) w) (fun _ => (0, undef)) [] [0, 0, 0, 0, 0, 0, 0, 0, 0, 0, 0, 0, 0, 0, 0, 0, 0, 0, 0, 0, 0, 0, 0, 0, 0, 0, 0, 0, 0, 0, 0, 0, 0, 0, 0, 0, 0, 0, 0, 0, 0, 0, 0, 0, 0, 0, 0] (fun _ _ => false) hz2 (by kernel_rfl) (by kernel_rfl) (by kernel_rfl) ?_ (show Mem _ _ from hM2) ?_ ?_
   · exact ⟨fun _ _ _ => rfl, fun _ _ _ => rfl, fun _ _ _ => rfl, fun _ _ _ => rfl, fun _ _ _ => rfl, fun _ _ _ => rfl, fun _ _ _ => rfl, fun _ _ _ => rfl, fun _ _ _ => rfl, fun _ _ _ => rfl, fun _ _ _ => rfl, fun _ _ _ => rfl, fun _ _ _ => rfl, fun _ _ _ => rfl, fun _ _ _ => rfl, fun _ _ _ => rfl, fun _ _ _ => rfl, fun _ _ _ => rfl, fun _ _ _ => rfl, fun _ _ _ => rfl, fun _ _ _ => rfl, fun _ _ _ => rfl, fun _ _ _ => rfl, fun _ _ _ => rfl, fun _ _ _ => rfl, fun _ _ _ => rfl, fun _ _ _ => rfl, fun _ _ _ => rfl, fun _ _ _ => rfl, fun _ _ _ => rfl, fun _ _ _ => rfl, fun _ _ _ => rfl, fun _ _ _ => rfl, fun _ _ _ => rfl, fun _ _ _ => rfl, fun _ _ _ => rfl, fun _ _ _ => rfl, fun _ _ _ => rfl, fun _ _ _ => rfl, fun _ _ _ => rfl, fun _ _ _ => rfl, fun _ _ _ => rfl, fun _ _ _ => rfl, fun _ _ _ => rfl, fun _ _ _ => rfl, fun _ _ _ => rfl, fun _ _ _ => rfl, trivial⟩
   ·
    refine ⟨?_, ?_, ?_, ?_, ?_, ?_, ?_, ?_, ?_, ?_, ?_, ?_, ?_, ?_, ?_, ?_, ?_, ?_, ?_, ?_, ?_, ?_, ?_, ?_, ?_, ?_, ?_, ?_, ?_, ?_, ?_, ?_, ?_, ?_, ?_, ?_, ?_, ?_, ?_, ?_, ?_, ?_, ?_, ?_, ?_, ?_, ?_, trivial⟩
    · exact op2 (a := 0) rfl fun e w ρ (hM : Mem _ w) E => res_ok (x_fieldAddr (off := 0) rfl (E.o 1 _ rfl g1_2) (by kernel_rfl) rfl) (goes_still rfl rfl hM)
    · exact op2 (a := 0) rfl fun e w ρ (hM : Mem _ w) E => res_ok (x_load rfl (E.d 0 _ 6 rfl rfl rfl) (by kernel_rfl) ((hM.box 1 rfl).cell 0 rfl)) (goes_still rfl rfl hM)
    · exact op2 (a := 0) rfl fun e w ρ (hM : Mem _ w) E => res_ok (x_eql rfl (E.d 1 _ 7 rfl rfl rfl) (E.c _) rfl) (goes_still rfl rfl hM)
    · exact op2 (a := 0) rfl fun e w ρ (hM : Mem _ w) E => res_ok (x_move rfl (E.d 2 _ 8 rfl rfl rfl)) (goes_still rfl (congrArg Value.bool hz2_3.symm) hM)
    · exact op3 (a := 0) z2_3 rfl (fun _ => rfl) rfl (fun hC _ => (gd_no hC).symm) fun hC e w ρ (hM : Mem _ w) E => res_ok (x_fieldAddr (off := 1) rfl (E.o 1 _ rfl g1_2) (by kernel_rfl) rfl) (goes_still rfl (gd_yes hC).symm hM)
    · exact op3 (a := 0) z2_3 rfl (fun _ => rfl) rfl (fun hC _ => (gd_no hC).symm) fun hC e w ρ (hM : Mem _ w) E => res_ok (x_loads rfl ((E.d 4 _ 10 rfl rfl rfl).trans (gd_yes hC)) (by kernel_rfl) (load_part (hM.box 1 rfl) [.int .u8 c.tick.c, .int .u64 c.tick.r] rfl (Nat.le_of_ble_eq_true rfl) rfl)) (goes_still rfl (gd_yes hC).symm hM)
    ·
     refine op3 (a := 0) z2_3 rfl (fun _ => rfl) rfl (fun hC _ => (gd_no hC).symm) fun hC e w ρ (hM : Mem _ w) E => ?_
     exact res_ok (v := .agg #[.int .u8 0, .int .u64 0]) (by simp [go_sem, execOp, Instr.build, Instr.fill, E.c, E.f] <;> rfl) (goes_still rfl (gd_yes hC).symm hM)
    · exact op3 (a := 0) z2_3 rfl (fun _ => rfl) rfl (fun hC _ => (gd_no hC).symm) fun hC e w ρ (hM : Mem _ w) E => res_ok (x_eqA rfl ((E.d 5 _ 11 rfl rfl rfl).trans (gd_yes hC)) ((E.d 6 _ 12 rfl rfl rfl).trans (gd_yes hC)) (by kernel_rfl) (eq_tick c.tick ⟨0, 0⟩ w)) (goes_still rfl (gd_yes hC).symm hM)
    · exact op2 (a := 0) rfl fun e w ρ (hM : Mem _ w) E => res_ok (x_pickAnd rfl (E.d 3 _ 9 rfl rfl rfl) (fun hC => ((E.d 7 _ 13 rfl rfl rfl).trans (gd_t hC))) (E.c _)) (goes_still rfl rfl hM)
    · exact op2 (a := 0) rfl fun e w ρ (hM : Mem _ w) E => res_ok (x_move rfl (E.d 8 _ 14 rfl rfl rfl)) (goes_still rfl (congrArg Value.bool hz2_9.symm) hM)
    · exact op3 (a := 0) z2_9 rfl (fun _ => rfl) rfl (fun hC _ => (gd_no hC).symm) fun hC e w ρ (hM : Mem _ w) E => res_ok (x_fieldAddr (off := 3) rfl (E.o 1 _ rfl g1_2) (by kernel_rfl) rfl) (goes_still rfl (gd_yes hC).symm hM)
    · exact op3 (a := 0) z2_9 rfl (fun _ => rfl) rfl (fun hC _ => (gd_no hC).symm) fun hC e w ρ (hM : Mem _ w) E => res_ok (x_load rfl ((E.d 10 _ 16 rfl rfl rfl).trans (gd_yes hC)) (by kernel_rfl) ((hM.box 1 rfl).cell 3 rfl)) (goes_still rfl (gd_yes hC).symm hM)
    · exact op3 (a := 0) z2_9 rfl (fun _ => rfl) rfl (fun hC _ => (gd_no hC).symm) fun hC e w ρ (hM : Mem _ w) E => res_ok (x_eql rfl ((E.d 11 _ 17 rfl rfl rfl).trans (gd_yes hC)) (E.c _) rfl) (goes_still rfl (gd_yes hC).symm hM)
    · exact op2 (a := 0) rfl fun e w ρ (hM : Mem _ w) E => res_ok (x_pickAnd rfl (E.d 9 _ 15 rfl rfl rfl) (fun hC => ((E.d 12 _ 18 rfl rfl rfl).trans (gd_t hC))) (E.c _)) (goes_still rfl rfl hM)
    · exact op2 (a := 0) rfl fun e w ρ (hM : Mem _ w) E => res_ok (x_move rfl (E.d 13 _ 19 rfl rfl rfl)) (goes_still rfl (congrArg Value.bool hz2_14.symm) hM)
    · exact op3 (a := 0) z2_14 rfl (fun _ => rfl) rfl (fun hC _ => (gd_no hC).symm) fun hC e w ρ (hM : Mem _ w) E => res_ok (x_fieldAddr (off := 9) rfl (E.o 1 _ rfl g1_2) (by kernel_rfl) rfl) (goes_still rfl (gd_yes hC).symm hM)
    · exact op3 (a := 0) z2_14 rfl (fun _ => rfl) rfl (fun hC _ => (gd_no hC).symm) fun hC e w ρ (hM : Mem _ w) E => res_ok (x_load rfl ((E.d 15 _ 21 rfl rfl rfl).trans (gd_yes hC)) (by kernel_rfl) ((hM.box 1 rfl).cell 9 rfl)) (goes_still rfl (gd_yes hC).symm hM)
    · exact op3 (a := 0) z2_14 rfl (fun _ => rfl) rfl (fun hC _ => (gd_no hC).symm) fun hC e w ρ (hM : Mem _ w) E => res_ok (x_eql rfl ((E.d 16 _ 22 rfl rfl rfl).trans (gd_yes hC)) (E.c _) rfl) (goes_still rfl (gd_yes hC).symm hM)
    · exact op2 (a := 0) rfl fun e w ρ (hM : Mem _ w) E => res_ok (x_pickAnd rfl (E.d 14 _ 20 rfl rfl rfl) (fun hC => ((E.d 17 _ 23 rfl rfl rfl).trans (gd_t hC))) (E.c _)) (goes_still rfl rfl hM)
    · exact op2 (a := 0) rfl fun e w ρ (hM : Mem _ w) E => res_ok (x_move rfl (E.d 18 _ 24 rfl rfl rfl)) (goes_still rfl (congrArg Value.bool hz2_19.symm) hM)
    · exact op3 (a := 0) z2_19 rfl (fun _ => rfl) rfl (fun hC _ => (gd_no hC).symm) fun hC e w ρ (hM : Mem _ w) E => res_ok (x_fieldAddr (off := 0) rfl (E.o 3 _ rfl g3_2) (by kernel_rfl) rfl) (goes_still rfl (gd_yes hC).symm hM)
    · exact op3 (a := 0) z2_19 rfl (fun _ => rfl) rfl (fun hC _ => (gd_no hC).symm) fun hC e w ρ (hM : Mem _ w) E => res_ok (x_load rfl ((E.d 20 _ 26 rfl rfl rfl).trans (gd_yes hC)) (by kernel_rfl) ((hM.box 0 rfl).cell 0 rfl)) (goes_still rfl (gd_yes hC).symm hM)
    · exact op3 (a := 0) z2_19 rfl (fun _ => rfl) rfl (fun hC _ => (gd_no hC).symm) fun hC e w ρ (hM : Mem _ w) E => res_ok (x_eqS rfl ((E.d 21 _ 27 rfl rfl rfl).trans (gd_yes hC)) (E.c _) rfl) (goes_still rfl (gd_yes hC).symm hM)
    · exact op2 (a := 0) rfl fun e w ρ (hM : Mem _ w) E => res_ok (x_pickAnd rfl (E.d 19 _ 25 rfl rfl rfl) (fun hC => ((E.d 22 _ 28 rfl rfl rfl).trans (gd_t hC))) (E.c _)) (goes_still rfl rfl hM)
    · exact op2 (a := 0) rfl fun e w ρ (hM : Mem _ w) E => res_ok (x_move rfl (E.d 23 _ 29 rfl rfl rfl)) (goes_still rfl (congrArg Value.bool hz2_24.symm) hM)
    · exact op3 (a := 0) z2_24 rfl (fun _ => rfl) rfl (fun hC _ => (gd_no hC).symm) fun hC e w ρ (hM : Mem _ w) E => res_ok (x_fieldAddr (off := 1) rfl (E.o 3 _ rfl g3_2) (by kernel_rfl) rfl) (goes_still rfl (gd_yes hC).symm hM)
    · exact op3 (a := 0) z2_24 rfl (fun _ => rfl) rfl (fun hC _ => (gd_no hC).symm) fun hC e w ρ (hM : Mem _ w) E => res_ok (x_load rfl ((E.d 25 _ 31 rfl rfl rfl).trans (gd_yes hC)) (by kernel_rfl) ((hM.box 0 rfl).cell 1 rfl)) (goes_still rfl (gd_yes hC).symm hM)
    ·
     refine op3 (a := 0) z2_24 rfl (fun _ => rfl) rfl (fun hC _ => (gd_no hC).symm) fun hC e w ρ (hM : Mem _ w) E => ?_
     have e32 : ρ (.tmp 32) = .slice al c.legs.length cl := ((E.d 26 _ 32 rfl rfl rfl).trans (gd_yes hC))
     exact res_ok (x_len (n := 3) rfl rfl rfl rfl (e32) (by kernel_rfl)) (goes_still rfl (gd_yes hC).symm hM)
    · exact op3 (a := 0) z2_24 rfl (fun _ => rfl) rfl (fun hC _ => (gd_no hC).symm) fun hC e w ρ (hM : Mem _ w) E => res_ok (x_eql rfl ((E.d 27 _ 33 rfl rfl rfl).trans (gd_yes hC)) (E.c _) rfl) (goes_still rfl (gd_yes hC).symm hM)
    · exact op2 (a := 0) rfl fun e w ρ (hM : Mem _ w) E => res_ok (x_pickAnd rfl (E.d 24 _ 30 rfl rfl rfl) (fun hC => ((E.d 28 _ 34 rfl rfl rfl).trans (gd_t hC))) (E.c _)) (goes_still rfl rfl hM)
    · exact op2 (a := 0) rfl fun e w ρ (hM : Mem _ w) E => res_ok (x_move rfl (E.d 29 _ 35 rfl rfl rfl)) (goes_still rfl (congrArg Value.bool hz2_30.symm) hM)
    · exact op3 (a := 0) z2_30 rfl (fun _ => rfl) rfl (fun hC _ => (gd_no hC).symm) fun hC e w ρ (hM : Mem _ w) E => res_ok (x_fieldAddr (off := 2) rfl (E.o 3 _ rfl g3_2) (by kernel_rfl) rfl) (goes_still rfl (gd_yes hC).symm hM)
    · exact op3 (a := 0) z2_30 rfl (fun _ => rfl) rfl (fun hC _ => (gd_no hC).symm) fun hC e w ρ (hM : Mem _ w) E => res_ok (x_load rfl ((E.d 31 _ 37 rfl rfl rfl).trans (gd_yes hC)) (by kernel_rfl) ((hM.box 0 rfl).cell 2 rfl)) (goes_still rfl (gd_yes hC).symm hM)
    · exact op3 (a := 0) z2_30 rfl (fun _ => rfl) rfl (fun hC _ => (gd_no hC).symm) fun hC e w ρ (hM : Mem _ w) E => res_ok (x_eql rfl ((E.d 32 _ 38 rfl rfl rfl).trans (gd_yes hC)) (E.c _) rfl) (goes_still rfl (gd_yes hC).symm hM)
    · exact op2 (a := 0) rfl fun e w ρ (hM : Mem _ w) E => res_ok (x_pickAnd rfl (E.d 30 _ 36 rfl rfl rfl) (fun hC => ((E.d 33 _ 39 rfl rfl rfl).trans (gd_t hC))) (E.c _)) (goes_still rfl rfl hM)
    · exact op2 (a := 0) rfl fun e w ρ (hM : Mem _ w) E => res_ok (x_move rfl (E.d 34 _ 40 rfl rfl rfl)) (goes_still rfl (congrArg Value.bool hz2_35.symm) hM)
    · exact op3 (a := 0) z2_35 rfl (fun _ => rfl) rfl (fun hC _ => (gd_no hC).symm) fun hC e w ρ (hM : Mem _ w) E => res_ok (x_fieldAddr (off := 3) rfl (E.o 3 _ rfl g3_2) (by kernel_rfl) rfl) (goes_still rfl (gd_yes hC).symm hM)
    · exact op3 (a := 0) z2_35 rfl (fun _ => rfl) rfl (fun hC _ => (gd_no hC).symm) fun hC e w ρ (hM : Mem _ w) E => res_ok (x_load rfl ((E.d 36 _ 42 rfl rfl rfl).trans (gd_yes hC)) (by kernel_rfl) ((hM.box 0 rfl).cell 3 rfl)) (goes_still rfl (gd_yes hC).symm hM)
    ·
     refine op3 (a := 0) z2_35 rfl (fun _ => rfl) rfl (fun hC _ => (gd_no hC).symm) fun hC e w ρ (hM : Mem _ w) E => ?_
     have e43 : ρ (.tmp 43) = .slice at1 c.taxes.length ct := ((E.d 37 _ 43 rfl rfl rfl).trans (gd_yes hC))
     exact res_ok (x_len (n := 2) rfl rfl rfl rfl (e43) (by kernel_rfl)) (goes_still rfl (gd_yes hC).symm hM)
    · exact op3 (a := 0) z2_35 rfl (fun _ => rfl) rfl (fun hC _ => (gd_no hC).symm) fun hC e w ρ (hM : Mem _ w) E => res_ok (x_eql rfl ((E.d 38 _ 44 rfl rfl rfl).trans (gd_yes hC)) (E.c _) rfl) (goes_still rfl (gd_yes hC).symm hM)
    · exact op2 (a := 0) rfl fun e w ρ (hM : Mem _ w) E => res_ok (x_pickAnd rfl (E.d 35 _ 41 rfl rfl rfl) (fun hC => ((E.d 39 _ 45 rfl rfl rfl).trans (gd_t hC))) (E.c _)) (goes_still rfl rfl hM)
    · exact op2 (a := 0) rfl fun e w ρ (hM : Mem _ w) E => res_ok (x_move rfl (E.d 40 _ 46 rfl rfl rfl)) (goes_still rfl (congrArg Value.bool hz2_41.symm) hM)
    · exact op3 (a := 0) z2_41 rfl (fun _ => rfl) rfl (fun hC _ => (gd_no hC).symm) fun hC e w ρ (hM : Mem _ w) E => res_ok (x_fieldAddr (off := 4) rfl (E.o 3 _ rfl g3_2) (by kernel_rfl) rfl) (goes_still rfl (gd_yes hC).symm hM)
    · exact op3 (a := 0) z2_41 rfl (fun _ => rfl) rfl (fun hC _ => (gd_no hC).symm) fun hC e w ρ (hM : Mem _ w) E => res_ok (x_load rfl ((E.d 42 _ 48 rfl rfl rfl).trans (gd_yes hC)) (by kernel_rfl) ((hM.box 0 rfl).cell 4 rfl)) (goes_still rfl (gd_yes hC).symm hM)
    · exact op3 (a := 0) z2_41 rfl (fun _ => rfl) rfl (fun hC _ => (gd_no hC).symm) fun hC e w ρ (hM : Mem _ w) E => res_ok (x_eql rfl ((E.d 43 _ 49 rfl rfl rfl).trans (gd_yes hC)) (E.c _) rfl) (goes_still rfl (gd_yes hC).symm hM)
    · exact op2 (a := 0) rfl fun e w ρ (hM : Mem _ w) E => res_ok (x_pickAnd rfl (E.d 41 _ 47 rfl rfl rfl) (fun hC => ((E.d 44 _ 50 rfl rfl rfl).trans (gd_t hC))) (E.c _)) (goes_still rfl rfl hM)
    · exact op2 (a := 0) rfl fun e w ρ (hM : Mem _ w) E => res_ok (x_assign rfl (E.d 45 _ 51 rfl rfl rfl)) (goes_still rfl rfl hM)
   ·
    intro e a3 w3 hz3 hd hG hO hM
    have hd3 := hd.trans hd2
    have g2_3 : a3.tmps[2]? = some (.bool (z2_41 && (decide (c.penalty = 0)))) := hG 46 _ 2 rfl rfl
    have hM3 : Mem (boxC b2_0 #[.string c.name, .slice al c.legs.length cl, .int .i64 c.fare, .slice at1 c.taxes.length ct, .int .i64 c.penalty] :: boxC b1_0 #[.int .u8 c.kind, .int .u8 c.tick.c, .int .u64 c.tick.r, .int .u8 c.at_, .string c.name, .slice al c.legs.length cl, .int .i64 c.fare, .slice at1 c.taxes.length ct, .int .i64 c.penalty, .int .i64 c.amount] :: R) w3 := hM
    clear hM hG hO hd
    clear hz2 hd2 hM2 g1_2 g2_2 g3_2
    refine then_n ?_
    refine wp_ret ?_
    refine ret_1 Try.results36 hd3 g2_3 ?_
    exact ⟨by rw [show emptyV c = (z2_41 && (decide (c.penalty = 0))) from by simp only [hz2_3, hz2_9, hz2_14, hz2_19, hz2_24, hz2_30, hz2_35, hz2_41]; rfl], hM3.tail.tail⟩
set_option maxRecDepth 100000 in
set_option maxHeartbeats 8000000 in
theorem may_at (r : RecV) (al at1 : Option Addr) (cl ct : Nat) (R : List Chunk) (w : World) (hM : Mem R w) :
  Calls Try.prog 18 #[.agg (recCells r (.slice al r.cmd.legs.length cl) (.slice at1 r.cmd.taxes.length ct))] w fun e w' => e = .returned (.bool (mayV r)) ∧ Mem R w' := by
 refine enter Try.func18 rfl Try.ntmps18 (Nat.le_of_ble_eq_true rfl) ?_
 intro a0 hz0 hd0 hg0
 have g0_0 : a0.tmps[0]? = some (.agg (recCells r (.slice al r.cmd.legs.length cl) (.slice at1 r.cmd.taxes.length ct))) := hg0 0 _ rfl
 clear hg0
 have hM0 : Mem (R) _ := hM
 refine wp_seq ?_
 refine region_seq 37 (fun zz e => (#[.pointer (some ⟨(e 0).1, 0, none⟩), .bool false] : Array Value).getD zz undef) (fun k e w => Mem (List.getD [R, boxC ((e 0).1) (recCells r (.slice al r.cmd.legs.length cl) (.slice at1 r.cmd.taxes.length ct)) :: R] k []) w) (fun _ => (0, undef)) [0] [0, 1] (fun _ _ => false) hz0 (by kernel_rfl) (by kernel_rfl) (by kernel_rfl) ?_ (show Mem _ _ from hM0) ?_ ?_
 · exact ⟨fun e e' h => congrArg (fun x : Rv => (.pointer (some ⟨x.1, 0, none⟩) : Value)) (h 0 (by decide)), fun _ _ _ => rfl, trivial⟩
 ·
  refine ⟨?_, ?_, trivial⟩
  ·
   refine op2 (a := 0) rfl fun e w ρ (hM : Mem _ w) E => ?_
   have e0 : ρ (.tmp 0) = .agg (recCells r (.slice al r.cmd.legs.length cl) (.slice at1 r.cmd.taxes.length ct)) := E.o 0 _ rfl g0_0
   exact res_ok (x_box rfl (e0)) (goes_tick rfl (w.heap.size, undef) rfl (hM.alloc _ _))
  · exact op2 (a := 1) rfl fun e w ρ (hM : Mem _ w) E => res_ok (x_assign rfl (E.c _)) (goes_still rfl rfl hM)
 ·
  intro e a1 w1 hz1 hd hG hO hM
  have hd1 := hd.trans hd0
  have g1_1 : a1.tmps[1]? = some (.pointer (some ⟨(e 0).1, 0, none⟩)) := hG 0 _ 1 rfl rfl
  have g2_1 : a1.tmps[2]? = some (.bool false) := hG 1 _ 2 rfl rfl
  have hM1 : Mem (boxC ((e 0).1) (recCells r (.slice al r.cmd.legs.length cl) (.slice at1 r.cmd.taxes.length ct)) :: R) w1 := hM
  clear hM hG hO hd
  clear hz0 hd0 hM0 g0_0
  generalize (e 0).1 = b1_0 at *
  refine then_n ?_
  refine wp_seq ?_
  refine wp_seq ?_
  refine region_seq 37 (fun zz e => (#[.pointer (some ⟨b1_0, 0, none⟩), .int .u8 r.kind] : Array Value).getD zz undef) (fun k e w => Mem (List.getD [boxC b1_0 (recCells r (.slice al r.cmd.legs.length cl) (.slice at1 r.cmd.taxes.length ct)) :: R] k []) w) (fun _ => (0, undef)) [] [0, 0] (fun _ _ => false) hz1 (by kernel_rfl) (by kernel_rfl) (by kernel_rfl) ?_ (show Mem _ _ from hM1) ?_ ?_
  · exact ⟨fun _ _ _ => rfl, fun _ _ _ => rfl, trivial⟩
  ·
   refine ⟨?_, ?_, trivial⟩
   · exact op2 (a := 0) rfl fun e w ρ (hM : Mem _ w) E => res_ok (x_fieldAddr (off := 0) rfl (E.o 1 _ rfl g1_1) (by kernel_rfl) rfl) (goes_still rfl rfl hM)
   · exact op2 (a := 0) rfl fun e w ρ (hM : Mem _ w) E => res_ok (x_load rfl (E.d 0 _ 3 rfl rfl rfl) (by kernel_rfl) ((hM.box 0 rfl).cell 0 rfl)) (goes_still rfl rfl hM)
  ·
   intro e a2 w2 hz2 hd hG hO hM
   have hd2 := hd.trans hd1
   have g1_2 := (hO 1 rfl).trans g1_1
   have g2_2 := (hO 2 rfl).trans g2_1
   have g4_2 : a2.tmps[4]? = some (.int .u8 r.kind) := hG 1 _ 4 rfl rfl
   have hM2 : Mem (boxC b1_0 (recCells r (.slice al r.cmd.legs.length cl) (.slice at1 r.cmd.taxes.length ct)) :: R) w2 := hM
   clear hM hG hO hd
   clear hz1 hd1 hM1 g1_1 g2_1
   refine then_n ?_
   refine wp_block ?_
   refine wp_seq ?_
   refine region_seq 37 (fun zz e => (#[.bool (decide (r.kind = 1)), .bool (decide (r.kind = 1))] : Array Value).getD zz undef) (fun k e w => Mem (List.getD [boxC b1_0 (recCells r (.slice al r.cmd.legs.length cl) (.slice at1 r.cmd.taxes.length ct)) :: R] k []) w) (fun _ => (0, undef)) [] [0, 0] (fun _ _ => false) hz2 (by kernel_rfl) (by kernel_rfl) (by kernel_rfl) ?_ (show Mem _ _ from hM2) ?_ ?_
   · exact ⟨fun _ _ _ => rfl, fun _ _ _ => rfl, trivial⟩
   ·
    refine ⟨?_, ?_, trivial⟩
    · exact op2 (a := 0) rfl fun e w ρ (hM : Mem _ w) E => res_ok (x_eql rfl (E.o 4 _ rfl g4_2) (E.c _) rfl) (goes_still rfl rfl hM)
    · exact op2 (a := 0) rfl fun e w ρ (hM : Mem _ w) E => res_ok (x_assign rfl (E.d 0 _ 6 rfl rfl rfl)) (goes_still rfl rfl hM)
   ·
    intro e a3 w3 hz3 hd hG hO hM
    have hd3 := hd.trans hd2
    have g1_3 := (hO 1 rfl).trans g1_2
    have g2_3 := (hO 2 rfl).trans g2_2
    have g4_3 := (hO 4 rfl).trans g4_2
    have g5_3 : a3.tmps[5]? = some (.bool (decide (r.kind = 1))) := hG 1 _ 5 rfl rfl
    have hM3 : Mem (boxC b1_0 (recCells r (.slice al r.cmd.legs.length cl) (.slice at1 r.cmd.taxes.length ct)) :: R) w3 := hM
    clear hM hG hO hd
    clear hz2 hd2 hM2 g1_2 g2_2 g4_2
    refine then_n ?_
    by_cases hc1 : r.kind = 1
    ·
     refine cond_t (g5_3.trans (by rw [decide_eq_true hc1])) ?_
     refine wp_seq ?_
     obtain ⟨z3_3, hz3_3⟩ : ∃ z : Bool, z = (decide (r.frm = 0)) := ⟨_, rfl⟩
     obtain ⟨z3_8, hz3_8⟩ : ∃ z : Bool, z = (z3_3 && (decide (r.number = 0))) := ⟨_, rfl⟩
     refine region_seq 37 (fun zz e => (#[.pointer (some ⟨b1_0, 11, none⟩), .int .u8 r.frm, .bool (decide (r.frm = 0)), .bool z3_3, (gd z3_3 true (.pointer (some ⟨b1_0, 12, none⟩))), (gd z3_3 true (.int .u64 r.number)), (gd z3_3 true (.bool (decide (r.number = 0)))), .bool (z3_3 && (decide (r.number = 0))), .bool z3_8, (gd z3_8 true (.pointer (some ⟨b1_0, 13, none⟩))), (gd z3_8 true (.agg #[.int .u8 r.msg.kind, .int .u8 r.msg.tick.c, .int .u64 r.msg.tick.r, .int .u8 r.msg.at_, .int .u8 r.msg.leg.c, .int .u16 r.msg.leg.f, .int .u32 r.msg.leg.x, .int .i64 r.msg.value, .int .u8 r.msg.status, .int .u32 r.msg.nonce, .int .i64 r.msg.amount, .int .i64 r.msg.code])), (gd z3_8 true (.agg #[.int .u8 0, .int .u8 0, .int .u64 0, .int .u8 0, .int .u8 0, .int .u16 0, .int .u32 0, .int .i64 0, .int .u8 0, .int .u32 0, .int .i64 0, .int .i64 0])), (gd z3_8 true (.bool (msgB r.msg msg0))), .bool (z3_8 && (msgB r.msg msg0)), .bool (z3_8 && (msgB r.msg msg0))] : Array Value).getD zz undef) (fun k e w => Mem (List.getD [boxC b1_0 (recCells r (.slice al r.cmd.legs.length cl) (.slice at1 r.cmd.taxes.length ct)) :: R] k []) w) (fun _ => (0, undef)) [] [0, 0, 0, 0, 0, 0, 0, 0, 0, 0, 0, 0, 0, 0, 0] (fun _ _ => false) hz3 (by kernel_rfl) (by kernel_rfl) (by kernel_rfl) ?_ (show Mem _ _ from hM3) ?_ ?_
     · exact ⟨fun _ _ _ => rfl, fun _ _ _ => rfl, fun _ _ _ => rfl, fun _ _ _ => rfl, fun _ _ _ => rfl, fun _ _ _ => rfl, fun _ _ _ => rfl, fun _ _ _ => rfl, fun _ _ _ => rfl, fun _ _ _ => rfl, fun _ _ _ => rfl, fun _ _ _ => rfl, fun _ _ _ => rfl, fun _ _ _ => rfl, fun _ _ _ => rfl, trivial⟩
     ·
      refine ⟨?_, ?_, ?_, ?_, ?_, ?_, ?_, ?_, ?_, ?_, ?_, ?_, ?_, ?_, ?_, trivial⟩
      · exact op2 (a := 0) rfl fun e w ρ (hM : Mem _ w) E => res_ok (x_fieldAddr (off := 11) rfl (E.o 1 _ rfl g1_3) (by kernel_rfl) rfl) (goes_still rfl rfl hM)
      · exact op2 (a := 0) rfl fun e w ρ (hM : Mem _ w) E => res_ok (x_load rfl (E.d 0 _ 7 rfl rfl rfl) (by kernel_rfl) ((hM.box 0 rfl).cell 11 rfl)) (goes_still rfl rfl hM)
      · exact op2 (a := 0) rfl fun e w ρ (hM : Mem _ w) E => res_ok (x_eql rfl (E.d 1 _ 8 rfl rfl rfl) (E.c _) rfl) (goes_still rfl rfl hM)
      · exact op2 (a := 0) rfl fun e w ρ (hM : Mem _ w) E => res_ok (x_move rfl (E.d 2 _ 9 rfl rfl rfl)) (goes_still rfl (congrArg Value.bool hz3_3.symm) hM)
      · exact op3 (a := 0) z3_3 rfl (fun _ => rfl) rfl (fun hC _ => (gd_no hC).symm) fun hC e w ρ (hM : Mem _ w) E => res_ok (x_fieldAddr (off := 12) rfl (E.o 1 _ rfl g1_3) (by kernel_rfl) rfl) (goes_still rfl (gd_yes hC).symm hM)
      · exact op3 (a := 0) z3_3 rfl (fun _ => rfl) rfl (fun hC _ => (gd_no hC).symm) fun hC e w ρ (hM : Mem _ w) E => res_ok (x_load rfl ((E.d 4 _ 11 rfl rfl rfl).trans (gd_yes hC)) (by kernel_rfl) ((hM.box 0 rfl).cell 12 rfl)) (goes_still rfl (gd_yes hC).symm hM)
      · exact op3 (a := 0) z3_3 rfl (fun _ => rfl) rfl (fun hC _ => (gd_no hC).symm) fun hC e w ρ (hM : Mem _ w) E => res_ok (x_eql rfl ((E.d 5 _ 12 rfl rfl rfl).trans (gd_yes hC)) (E.c _) rfl) (goes_still rfl (gd_yes hC).symm hM)
      · exact op2 (a := 0) rfl fun e w ρ (hM : Mem _ w) E => res_ok (x_pickAnd rfl (E.d 3 _ 10 rfl rfl rfl) (fun hC => ((E.d 6 _ 13 rfl rfl rfl).trans (gd_t hC))) (E.c _)) (goes_still rfl rfl hM)
      · exact op2 (a := 0) rfl fun e w ρ (hM : Mem _ w) E => res_ok (x_move rfl (E.d 7 _ 14 rfl rfl rfl)) (goes_still rfl (congrArg Value.bool hz3_8.symm) hM)
      · exact op3 (a := 0) z3_8 rfl (fun _ => rfl) rfl (fun hC _ => (gd_no hC).symm) fun hC e w ρ (hM : Mem _ w) E => res_ok (x_fieldAddr (off := 13) rfl (E.o 1 _ rfl g1_3) (by kernel_rfl) rfl) (goes_still rfl (gd_yes hC).symm hM)
      · exact op3 (a := 0) z3_8 rfl (fun _ => rfl) rfl (fun hC _ => (gd_no hC).symm) fun hC e w ρ (hM : Mem _ w) E => res_ok (x_loads rfl ((E.d 9 _ 16 rfl rfl rfl).trans (gd_yes hC)) (by kernel_rfl) (load_part (hM.box 0 rfl) [.int .u8 r.msg.kind, .int .u8 r.msg.tick.c, .int .u64 r.msg.tick.r, .int .u8 r.msg.at_, .int .u8 r.msg.leg.c, .int .u16 r.msg.leg.f, .int .u32 r.msg.leg.x, .int .i64 r.msg.value, .int .u8 r.msg.status, .int .u32 r.msg.nonce, .int .i64 r.msg.amount, .int .i64 r.msg.code] rfl (Nat.le_of_ble_eq_true rfl) rfl)) (goes_still rfl (gd_yes hC).symm hM)
      ·
       refine op3 (a := 0) z3_8 rfl (fun _ => rfl) rfl (fun hC _ => (gd_no hC).symm) fun hC e w ρ (hM : Mem _ w) E => ?_
       exact res_ok (v := .agg #[.int .u8 0, .int .u8 0, .int .u64 0, .int .u8 0, .int .u8 0, .int .u16 0, .int .u32 0, .int .i64 0, .int .u8 0, .int .u32 0, .int .i64 0, .int .i64 0]) (by simp [go_sem, execOp, Instr.build, Instr.fill, E.c, E.f] <;> rfl) (goes_still rfl (gd_yes hC).symm hM)
      · exact op3 (a := 0) z3_8 rfl (fun _ => rfl) rfl (fun hC _ => (gd_no hC).symm) fun hC e w ρ (hM : Mem _ w) E => res_ok (x_eqA rfl ((E.d 10 _ 17 rfl rfl rfl).trans (gd_yes hC)) ((E.d 11 _ 18 rfl rfl rfl).trans (gd_yes hC)) (by kernel_rfl) (eq_msg r.msg msg0 w)) (goes_still rfl (gd_yes hC).symm hM)
      · exact op2 (a := 0) rfl fun e w ρ (hM : Mem _ w) E => res_ok (x_pickAnd rfl (E.d 8 _ 15 rfl rfl rfl) (fun hC => ((E.d 12 _ 19 rfl rfl rfl).trans (gd_t hC))) (E.c _)) (goes_still rfl rfl hM)
      · exact op2 (a := 0) rfl fun e w ρ (hM : Mem _ w) E => res_ok (x_assign rfl (E.d 13 _ 20 rfl rfl rfl)) (goes_still rfl rfl hM)
     ·
      intro e a4 w4 hz4 hd hG hO hM
      have hd4 := hd.trans hd3
      have g2_4 : a4.tmps[2]? = some (.bool (z3_8 && (msgB r.msg msg0))) := hG 14 _ 2 rfl rfl
      have hM4 : Mem (boxC b1_0 (recCells r (.slice al r.cmd.legs.length cl) (.slice at1 r.cmd.taxes.length ct)) :: R) w4 := hM
      clear hM hG hO hd
      clear hz3 hd3 hM3 g1_3 g2_3 g4_3 g5_3
      refine then_n ?_
      refine wp_ret ?_
      refine blk_r ?_
      refine then_r ?_
      refine ret_1 Try.results18 hd4 g2_4 ?_
      have hs : mayV r = (z3_8 && (msgB r.msg msg0)) := by unfold mayV; rw [if_pos hc1]; simp only [hz3_3, hz3_8]
      exact ⟨by rw [hs], hM4.tail⟩
    ·
     refine cond_f (g5_3.trans (by rw [decide_eq_false hc1])) ?_
     refine wp_seq ?_
     refine region_seq 37 (fun zz e => (#[.bool (decide (r.kind = 2)), .bool (decide (r.kind = 2))] : Array Value).getD zz undef) (fun k e w => Mem (List.getD [boxC b1_0 (recCells r (.slice al r.cmd.legs.length cl) (.slice at1 r.cmd.taxes.length ct)) :: R] k []) w) (fun _ => (0, undef)) [] [0, 0] (fun _ _ => false) hz3 (by kernel_rfl) (by kernel_rfl) (by kernel_rfl) ?_ (show Mem _ _ from hM3) ?_ ?_
     · exact ⟨fun _ _ _ => rfl, fun _ _ _ => rfl, trivial⟩
     ·
      refine ⟨?_, ?_, trivial⟩
      · exact op2 (a := 0) rfl fun e w ρ (hM : Mem _ w) E => res_ok (x_eql rfl (E.o 4 _ rfl g4_3) (E.c _) rfl) (goes_still rfl rfl hM)
      · exact op2 (a := 0) rfl fun e w ρ (hM : Mem _ w) E => res_ok (x_assign rfl (E.d 0 _ 22 rfl rfl rfl)) (goes_still rfl rfl hM)
     ·
      intro e a5 w5 hz5 hd hG hO hM
      have hd5 := hd.trans hd3
      have g1_5 := (hO 1 rfl).trans g1_3
      have g2_5 := (hO 2 rfl).trans g2_3
      have g4_5 := (hO 4 rfl).trans g4_3
      have g21_5 : a5.tmps[21]? = some (.bool (decide (r.kind = 2))) := hG 1 _ 21 rfl rfl
      have hM5 : Mem (boxC b1_0 (recCells r (.slice al r.cmd.legs.length cl) (.slice at1 r.cmd.taxes.length ct)) :: R) w5 := hM
      clear hM hG hO hd
      clear hz3 hd3 hM3 g1_3 g2_3 g4_3 g5_3
      refine then_n ?_
      by_cases hc2 : r.kind = 2
      ·
       refine cond_t (g21_5.trans (by rw [decide_eq_true hc2])) ?_
       refine wp_seq ?_
       refine region_seq 37 (fun zz e => (#[.pointer (some ⟨b1_0, 1, none⟩), .agg #[.int .u8 r.cmd.kind, .int .u8 r.cmd.tick.c, .int .u64 r.cmd.tick.r, .int .u8 r.cmd.at_, .string r.cmd.name, .slice al r.cmd.legs.length cl, .int .i64 r.cmd.fare, .slice at1 r.cmd.taxes.length ct, .int .i64 r.cmd.penalty, .int .i64 r.cmd.amount], .bool (emptyV r.cmd), .bool (emptyV r.cmd)] : Array Value).getD zz undef) (fun k e w => Mem (List.getD [boxC b1_0 (recCells r (.slice al r.cmd.legs.length cl) (.slice at1 r.cmd.taxes.length ct)) :: R] k []) w) (fun _ => (0, undef)) [] [0, 0, 0, 0] (fun _ _ => false) hz5 (by kernel_rfl) (by kernel_rfl) (by kernel_rfl) ?_ (show Mem _ _ from hM5) ?_ ?_
       · exact ⟨fun _ _ _ => rfl, fun _ _ _ => rfl, fun _ _ _ => rfl, fun _ _ _ => rfl, trivial⟩
       ·
        refine ⟨?_, ?_, ?_, ?_, trivial⟩
        · exact op2 (a := 0) rfl fun e w ρ (hM : Mem _ w) E => res_ok (x_fieldAddr (off := 1) rfl (E.o 1 _ rfl g1_5) (by kernel_rfl) rfl) (goes_still rfl rfl hM)
        · exact op2 (a := 0) rfl fun e w ρ (hM : Mem _ w) E => res_ok (x_loads rfl (E.d 0 _ 23 rfl rfl rfl) (by kernel_rfl) (load_part (hM.box 0 rfl) [.int .u8 r.cmd.kind, .int .u8 r.cmd.tick.c, .int .u64 r.cmd.tick.r, .int .u8 r.cmd.at_, .string r.cmd.name, .slice al r.cmd.legs.length cl, .int .i64 r.cmd.fare, .slice at1 r.cmd.taxes.length ct, .int .i64 r.cmd.penalty, .int .i64 r.cmd.amount] rfl (Nat.le_of_ble_eq_true rfl) rfl)) (goes_still rfl rfl hM)
        ·
         refine op2 (a := 0) rfl fun e w ρ (hM : Mem _ w) E => ?_
         have e24 : ρ (.tmp 24) = .agg #[.int .u8 r.cmd.kind, .int .u8 r.cmd.tick.c, .int .u64 r.cmd.tick.r, .int .u8 r.cmd.at_, .string r.cmd.name, .slice al r.cmd.legs.length cl, .int .i64 r.cmd.fare, .slice at1 r.cmd.taxes.length ct, .int .i64 r.cmd.penalty, .int .i64 r.cmd.amount] := E.d 1 _ 24 rfl rfl rfl
         refine res_in (x_call (args := #[.agg #[.int .u8 r.cmd.kind, .int .u8 r.cmd.tick.c, .int .u64 r.cmd.tick.r, .int .u8 r.cmd.at_, .string r.cmd.name, .slice al r.cmd.legs.length cl, .int .i64 r.cmd.fare, .slice at1 r.cmd.taxes.length ct, .int .i64 r.cmd.penalty, .int .i64 r.cmd.amount]]) rfl rfl (E.f _) (by simp [e24]) (by kernel_rfl)) ?_
         refine (empty_at r.cmd al at1 cl ct _ _ hM).mono ?_
         rintro e' w' ⟨rfl, hm⟩
         exact ⟨_, rfl, goes_still rfl rfl (hm)⟩
        · exact op2 (a := 0) rfl fun e w ρ (hM : Mem _ w) E => res_ok (x_assign rfl (E.d 2 _ 25 rfl rfl rfl)) (goes_still rfl rfl hM)
       ·
        intro e a6 w6 hz6 hd hG hO hM
        have hd6 := hd.trans hd5
        have g2_6 : a6.tmps[2]? = some (.bool (emptyV r.cmd)) := hG 3 _ 2 rfl rfl
        have hM6 : Mem (boxC b1_0 (recCells r (.slice al r.cmd.legs.length cl) (.slice at1 r.cmd.taxes.length ct)) :: R) w6 := hM
        clear hM hG hO hd
        clear hz5 hd5 hM5 g1_5 g2_5 g4_5 g21_5
        refine then_n ?_
        refine wp_ret ?_
        refine blk_r ?_
        refine then_r ?_
        refine ret_1 Try.results18 hd6 g2_6 ?_
        have hs : mayV r = (emptyV r.cmd) := by unfold mayV; rw [if_neg hc1, if_pos hc2]
        exact ⟨by rw [hs], hM6.tail⟩
      ·
       refine cond_f (g21_5.trans (by rw [decide_eq_false hc2])) ?_
       refine wp_seq ?_
       refine region_seq 37 (fun zz e => (#[.bool (decide (r.kind = 3)), .bool (decide (r.kind = 3))] : Array Value).getD zz undef) (fun k e w => Mem (List.getD [boxC b1_0 (recCells r (.slice al r.cmd.legs.length cl) (.slice at1 r.cmd.taxes.length ct)) :: R] k []) w) (fun _ => (0, undef)) [] [0, 0] (fun _ _ => false) hz5 (by kernel_rfl) (by kernel_rfl) (by kernel_rfl) ?_ (show Mem _ _ from hM5) ?_ ?_
       · exact ⟨fun _ _ _ => rfl, fun _ _ _ => rfl, trivial⟩
       ·
        refine ⟨?_, ?_, trivial⟩
        · exact op2 (a := 0) rfl fun e w ρ (hM : Mem _ w) E => res_ok (x_eql rfl (E.o 4 _ rfl g4_5) (E.c _) rfl) (goes_still rfl rfl hM)
        · exact op2 (a := 0) rfl fun e w ρ (hM : Mem _ w) E => res_ok (x_assign rfl (E.d 0 _ 27 rfl rfl rfl)) (goes_still rfl rfl hM)
       ·
        intro e a7 w7 hz7 hd hG hO hM
        have hd7 := hd.trans hd5
        have g1_7 := (hO 1 rfl).trans g1_5
        have g2_7 := (hO 2 rfl).trans g2_5
        have g26_7 : a7.tmps[26]? = some (.bool (decide (r.kind = 3))) := hG 1 _ 26 rfl rfl
        have hM7 : Mem (boxC b1_0 (recCells r (.slice al r.cmd.legs.length cl) (.slice at1 r.cmd.taxes.length ct)) :: R) w7 := hM
        clear hM hG hO hd
        clear hz5 hd5 hM5 g1_5 g2_5 g4_5 g21_5
        refine then_n ?_
        by_cases hc3 : r.kind = 3
        ·
         refine cond_t (g26_7.trans (by rw [decide_eq_true hc3])) ?_
         refine wp_seq ?_
         obtain ⟨z7_3, hz7_3⟩ : ∃ z : Bool, z = (emptyV r.cmd) := ⟨_, rfl⟩
         refine region_seq 37 (fun zz e => (#[.pointer (some ⟨b1_0, 1, none⟩), .agg #[.int .u8 r.cmd.kind, .int .u8 r.cmd.tick.c, .int .u64 r.cmd.tick.r, .int .u8 r.cmd.at_, .string r.cmd.name, .slice al r.cmd.legs.length cl, .int .i64 r.cmd.fare, .slice at1 r.cmd.taxes.length ct, .int .i64 r.cmd.penalty, .int .i64 r.cmd.amount], .bool (emptyV r.cmd), .bool z7_3, (gd z7_3 true (.pointer (some ⟨b1_0, 13, none⟩))), (gd z7_3 true (.agg #[.int .u8 r.msg.kind, .int .u8 r.msg.tick.c, .int .u64 r.msg.tick.r, .int .u8 r.msg.at_, .int .u8 r.msg.leg.c, .int .u16 r.msg.leg.f, .int .u32 r.msg.leg.x, .int .i64 r.msg.value, .int .u8 r.msg.status, .int .u32 r.msg.nonce, .int .i64 r.msg.amount, .int .i64 r.msg.code])), (gd z7_3 true (.agg #[.int .u8 0, .int .u8 0, .int .u64 0, .int .u8 0, .int .u8 0, .int .u16 0, .int .u32 0, .int .i64 0, .int .u8 0, .int .u32 0, .int .i64 0, .int .i64 0])), (gd z7_3 true (.bool (msgB r.msg msg0))), .bool (z7_3 && (msgB r.msg msg0)), .bool (z7_3 && (msgB r.msg msg0))] : Array Value).getD zz undef) (fun k e w => Mem (List.getD [boxC b1_0 (recCells r (.slice al r.cmd.legs.length cl) (.slice at1 r.cmd.taxes.length ct)) :: R] k []) w) (fun _ => (0, undef)) [] [0, 0, 0, 0, 0, 0, 0, 0, 0, 0] (fun _ _ => false) hz7 (by kernel_rfl) (by kernel_rfl) (by kernel_rfl) ?_ (show Mem _ _ from hM7) ?_ ?_
         · exact ⟨fun _ _ _ => rfl, fun _ _ _ => rfl, fun _ _ _ => rfl, fun _ _ _ => rfl, fun _ _ _ => rfl, fun _ _ _ => rfl, fun _ _ _ => rfl, fun _ _ _ => rfl, fun _ _ _ => rfl, fun _ _ _ => rfl, trivial⟩
         ·
          refine ⟨?_, ?_, ?_, ?_, ?_, ?_, ?_, ?_, ?_, ?_, trivial⟩
          · exact op2 (a := 0) rfl fun e w ρ (hM : Mem _ w) E => res_ok (x_fieldAddr (off := 1) rfl (E.o 1 _ rfl g1_7) (by kernel_rfl) rfl) (goes_still rfl rfl hM)
          · exact op2 (a := 0) rfl fun e w ρ (hM : Mem _ w) E => res_ok (x_loads rfl (E.d 0 _ 28 rfl rfl rfl) (by kernel_rfl) (load_part (hM.box 0 rfl) [.int .u8 r.cmd.kind, .int .u8 r.cmd.tick.c, .int .u64 r.cmd.tick.r, .int .u8 r.cmd.at_, .string r.cmd.name, .slice al r.cmd.legs.length cl, .int .i64 r.cmd.fare, .slice at1 r.cmd.taxes.length ct, .int .i64 r.cmd.penalty, .int .i64 r.cmd.amount] rfl (Nat.le_of_ble_eq_true rfl) rfl)) (goes_still rfl rfl hM)
          ·
           refine op2 (a := 0) rfl fun e w ρ (hM : Mem _ w) E => ?_
           have e29 : ρ (.tmp 29) = .agg #[.int .u8 r.cmd.kind, .int .u8 r.cmd.tick.c, .int .u64 r.cmd.tick.r, .int .u8 r.cmd.at_, .string r.cmd.name, .slice al r.cmd.legs.length cl, .int .i64 r.cmd.fare, .slice at1 r.cmd.taxes.length ct, .int .i64 r.cmd.penalty, .int .i64 r.cmd.amount] := E.d 1 _ 29 rfl rfl rfl
           refine res_in (x_call (args := #[.agg #[.int .u8 r.cmd.kind, .int .u8 r.cmd.tick.c, .int .u64 r.cmd.tick.r, .int .u8 r.cmd.at_, .string r.cmd.name, .slice al r.cmd.legs.length cl, .int .i64 r.cmd.fare, .slice at1 r.cmd.taxes.length ct, .int .i64 r.cmd.penalty, .int .i64 r.cmd.amount]]) rfl rfl (E.f _) (by simp [e29]) (by kernel_rfl)) ?_
           refine (empty_at r.cmd al at1 cl ct _ _ hM).mono ?_
           rintro e' w' ⟨rfl, hm⟩
           exact ⟨_, rfl, goes_still rfl rfl (hm)⟩
          · exact op2 (a := 0) rfl fun e w ρ (hM : Mem _ w) E => res_ok (x_move rfl (E.d 2 _ 30 rfl rfl rfl)) (goes_still rfl (congrArg Value.bool hz7_3.symm) hM)
          · exact op3 (a := 0) z7_3 rfl (fun _ => rfl) rfl (fun hC _ => (gd_no hC).symm) fun hC e w ρ (hM : Mem _ w) E => res_ok (x_fieldAddr (off := 13) rfl (E.o 1 _ rfl g1_7) (by kernel_rfl) rfl) (goes_still rfl (gd_yes hC).symm hM)
          · exact op3 (a := 0) z7_3 rfl (fun _ => rfl) rfl (fun hC _ => (gd_no hC).symm) fun hC e w ρ (hM : Mem _ w) E => res_ok (x_loads rfl ((E.d 4 _ 32 rfl rfl rfl).trans (gd_yes hC)) (by kernel_rfl) (load_part (hM.box 0 rfl) [.int .u8 r.msg.kind, .int .u8 r.msg.tick.c, .int .u64 r.msg.tick.r, .int .u8 r.msg.at_, .int .u8 r.msg.leg.c, .int .u16 r.msg.leg.f, .int .u32 r.msg.leg.x, .int .i64 r.msg.value, .int .u8 r.msg.status, .int .u32 r.msg.nonce, .int .i64 r.msg.amount, .int .i64 r.msg.code] rfl (Nat.le_of_ble_eq_true rfl) rfl)) (goes_still rfl (gd_yes hC).symm hM)
          ·
           refine op3 (a := 0) z7_3 rfl (fun _ => rfl) rfl (fun hC _ => (gd_no hC).symm) fun hC e w ρ (hM : Mem _ w) E => ?_
           exact res_ok (v := .agg #[.int .u8 0, .int .u8 0, .int .u64 0, .int .u8 0, .int .u8 0, .int .u16 0, .int .u32 0, .int .i64 0, .int .u8 0, .int .u32 0, .int .i64 0, .int .i64 0]) (by simp [go_sem, execOp, Instr.build, Instr.fill, E.c, E.f] <;> rfl) (goes_still rfl (gd_yes hC).symm hM)
          · exact op3 (a := 0) z7_3 rfl (fun _ => rfl) rfl (fun hC _ => (gd_no hC).symm) fun hC e w ρ (hM : Mem _ w) E => res_ok (x_eqA rfl ((E.d 5 _ 33 rfl rfl rfl).trans (gd_yes hC)) ((E.d 6 _ 34 rfl rfl rfl).trans (gd_yes hC)) (by kernel_rfl) (eq_msg r.msg msg0 w)) (goes_still rfl (gd_yes hC).symm hM)
          · exact op2 (a := 0) rfl fun e w ρ (hM : Mem _ w) E => res_ok (x_pickAnd rfl (E.d 3 _ 31 rfl rfl rfl) (fun hC => ((E.d 7 _ 35 rfl rfl rfl).trans (gd_t hC))) (E.c _)) (goes_still rfl rfl hM)
          · exact op2 (a := 0) rfl fun e w ρ (hM : Mem _ w) E => res_ok (x_assign rfl (E.d 8 _ 36 rfl rfl rfl)) (goes_still rfl rfl hM)
         ·
          intro e a8 w8 hz8 hd hG hO hM
          have hd8 := hd.trans hd7
          have g2_8 : a8.tmps[2]? = some (.bool (z7_3 && (msgB r.msg msg0))) := hG 9 _ 2 rfl rfl
          have hM8 : Mem (boxC b1_0 (recCells r (.slice al r.cmd.legs.length cl) (.slice at1 r.cmd.taxes.length ct)) :: R) w8 := hM
          clear hM hG hO hd
          clear hz7 hd7 hM7 g1_7 g2_7 g26_7
          refine then_n ?_
          refine wp_ret ?_
          refine blk_r ?_
          refine then_r ?_
          refine ret_1 Try.results18 hd8 g2_8 ?_
          have hs : mayV r = (z7_3 && (msgB r.msg msg0)) := by unfold mayV; rw [if_neg hc1, if_neg hc2, if_pos hc3]; simp only [hz7_3]
          exact ⟨by rw [hs], hM8.tail⟩
        ·
         refine cond_f (g26_7.trans (by rw [decide_eq_false hc3])) ?_
         refine wp_skip ?_
         refine blk_n ?_
         refine then_n ?_
         refine wp_seq ?_
         refine region_seq 37 (fun zz e => (#[.bool false] : Array Value).getD zz undef) (fun k e w => Mem (List.getD [boxC b1_0 (recCells r (.slice al r.cmd.legs.length cl) (.slice at1 r.cmd.taxes.length ct)) :: R] k []) w) (fun _ => (0, undef)) [] [0] (fun _ _ => false) hz7 (by kernel_rfl) (by kernel_rfl) (by kernel_rfl) ?_ (show Mem _ _ from hM7) ?_ ?_
         · exact ⟨fun _ _ _ => rfl, trivial⟩
         ·
          refine ⟨?_, trivial⟩
          · exact op2 (a := 0) rfl fun e w ρ (hM : Mem _ w) E => res_ok (x_assign rfl (E.c _)) (goes_still rfl rfl hM)
         ·
          intro e a9 w9 hz9 hd hG hO hM
          have hd9 := hd.trans hd7
          have g2_9 : a9.tmps[2]? = some (.bool false) := hG 0 _ 2 rfl rfl
          have hM9 : Mem (boxC b1_0 (recCells r (.slice al r.cmd.legs.length cl) (.slice at1 r.cmd.taxes.length ct)) :: R) w9 := hM
          clear hM hG hO hd
          clear hz7 hd7 hM7 g1_7 g2_7 g26_7
          refine then_n ?_
          refine wp_ret ?_
          refine ret_1 Try.results18 hd9 g2_9 ?_
          have hs : mayV r = (false) := by unfold mayV; rw [if_neg hc1, if_neg hc2, if_neg hc3]
          exact ⟨by rw [hs], hM9.tail⟩
set_option maxRecDepth 100000 in
set_option maxHeartbeats 8000000 in
theorem long_at (r : RecV) (al at1 : Option Addr) (cl ct : Nat) (R : List Chunk) (w : World) (hM : Mem R w) (ht : Reads R at1 (cellsL taxE r.cmd.taxes)) (hm : r.cmd.taxes.length ≤ maxLen) :
  Calls Try.prog 19 #[.agg (recCells r (.slice al r.cmd.legs.length cl) (.slice at1 r.cmd.taxes.length ct))] w fun e w' => e = .returned (.bool (longB r)) ∧ Mem R w' := by
 unfold maxLen at hm
 refine enter Try.func19 rfl Try.ntmps19 (Nat.le_of_ble_eq_true rfl) ?_
 intro a0 hz0 hd0 hg0
 have g0_0 : a0.tmps[0]? = some (.agg (recCells r (.slice al r.cmd.legs.length cl) (.slice at1 r.cmd.taxes.length ct))) := hg0 0 _ rfl
 clear hg0
 have hM0 : Mem (R) _ := hM
 refine wp_seq ?_
 refine region_seq 44 (fun zz e => (#[.pointer (some ⟨(e 0).1, 0, none⟩), .bool false] : Array Value).getD zz undef) (fun k e w => Mem (List.getD [R, boxC ((e 0).1) (recCells r (.slice al r.cmd.legs.length cl) (.slice at1 r.cmd.taxes.length ct)) :: R] k []) w) (fun _ => (0, undef)) [0] [0, 1] (fun _ _ => false) hz0 (by kernel_rfl) (by kernel_rfl) (by kernel_rfl) ?_ (show Mem _ _ from hM0) ?_ ?_
 · exact ⟨fun e e' h => congrArg (fun x : Rv => (.pointer (some ⟨x.1, 0, none⟩) : Value)) (h 0 (by decide)), fun _ _ _ => rfl, trivial⟩
 ·
  refine ⟨?_, ?_, trivial⟩
  ·
   refine op2 (a := 0) rfl fun e w ρ (hM : Mem _ w) E => ?_
   have e0 : ρ (.tmp 0) = .agg (recCells r (.slice al r.cmd.legs.length cl) (.slice at1 r.cmd.taxes.length ct)) := E.o 0 _ rfl g0_0
   exact res_ok (x_box rfl (e0)) (goes_tick rfl (w.heap.size, undef) rfl (hM.alloc _ _))
  · exact op2 (a := 1) rfl fun e w ρ (hM : Mem _ w) E => res_ok (x_assign rfl (E.c _)) (goes_still rfl rfl hM)
 ·
  intro e a1 w1 hz1 hd hG hO hM
  have hd1 := hd.trans hd0
  have g1_1 : a1.tmps[1]? = some (.pointer (some ⟨(e 0).1, 0, none⟩)) := hG 0 _ 1 rfl rfl
  have g2_1 : a1.tmps[2]? = some (.bool false) := hG 1 _ 2 rfl rfl
  have hM1 : Mem (boxC ((e 0).1) (recCells r (.slice al r.cmd.legs.length cl) (.slice at1 r.cmd.taxes.length ct)) :: R) w1 := hM
  clear hM hG hO hd
  clear hz0 hd0 hM0 g0_0
  generalize (e 0).1 = b1_0 at *
  refine then_n ?_
  refine wp_seq ?_
  refine region_seq 44 (fun zz e => (#[.pointer (some ⟨b1_0, 1, none⟩), .pointer (some ⟨b1_0, 5, none⟩), .agg #[.string r.cmd.name, .slice al r.cmd.legs.length cl, .int .i64 r.cmd.fare, .slice at1 r.cmd.taxes.length ct, .int .i64 r.cmd.penalty], .pointer (some ⟨(e 0).1, 0, none⟩), undef] : Array Value).getD zz undef) (fun k e w => Mem (List.getD [boxC b1_0 (recCells r (.slice al r.cmd.legs.length cl) (.slice at1 r.cmd.taxes.length ct)) :: R, boxC ((e 0).1) #[.string ByteArray.empty, .slice none 0 0, .int .i64 0, .slice none 0 0, .int .i64 0] :: boxC b1_0 (recCells r (.slice al r.cmd.legs.length cl) (.slice at1 r.cmd.taxes.length ct)) :: R, boxC ((e 0).1) #[.string r.cmd.name, .slice al r.cmd.legs.length cl, .int .i64 r.cmd.fare, .slice at1 r.cmd.taxes.length ct, .int .i64 r.cmd.penalty] :: boxC b1_0 (recCells r (.slice al r.cmd.legs.length cl) (.slice at1 r.cmd.taxes.length ct)) :: R] k []) w) (fun _ => (0, undef)) [3, 4] [0, 0, 0, 0, 1] (fun _ _ => false) hz1 (by kernel_rfl) (by kernel_rfl) (by kernel_rfl) ?_ (show Mem _ _ from hM1) ?_ ?_
  · exact ⟨fun _ _ _ => rfl, fun _ _ _ => rfl, fun _ _ _ => rfl, fun e e' h => congrArg (fun x : Rv => (.pointer (some ⟨x.1, 0, none⟩) : Value)) (h 0 (by decide)), fun _ _ _ => rfl, trivial⟩
  ·
   refine ⟨?_, ?_, ?_, ?_, ?_, trivial⟩
   · exact op2 (a := 0) rfl fun e w ρ (hM : Mem _ w) E => res_ok (x_fieldAddr (off := 1) rfl (E.o 1 _ rfl g1_1) (by kernel_rfl) rfl) (goes_still rfl rfl hM)
   · exact op2 (a := 0) rfl fun e w ρ (hM : Mem _ w) E => res_ok (x_fieldAddr (off := 4) rfl (E.d 0 _ 6 rfl rfl rfl) (by kernel_rfl) rfl) (goes_still rfl rfl hM)
   · exact op2 (a := 0) rfl fun e w ρ (hM : Mem _ w) E => res_ok (x_loads rfl (E.d 1 _ 7 rfl rfl rfl) (by kernel_rfl) (load_part (hM.box 0 rfl) [.string r.cmd.name, .slice al r.cmd.legs.length cl, .int .i64 r.cmd.fare, .slice at1 r.cmd.taxes.length ct, .int .i64 r.cmd.penalty] rfl (Nat.le_of_ble_eq_true rfl) rfl)) (goes_still rfl rfl hM)
   ·
    refine op2 (a := 0) rfl fun e w ρ (hM : Mem _ w) E => ?_
    exact res_ok (x_alloc (z := .agg #[.string ByteArray.empty, .slice none 0 0, .int .i64 0, .slice none 0 0, .int .i64 0]) rfl (by kernel_rfl)) (goes_tick rfl (w.heap.size, undef) rfl (hM.alloc _ _))
   ·
    refine op2 (a := 1) rfl fun e w ρ (hM : Mem _ w) E => ?_
    have e3 := E.d 3 _ 3 rfl rfl rfl
    have e8 := E.d 2 _ 8 rfl rfl rfl
    obtain ⟨w', hr, hm⟩ := Mem.store (P := Try.prog) hM 0 rfl 28 0 (.agg #[.string r.cmd.name, .slice al r.cmd.legs.length cl, .int .i64 r.cmd.fare, .slice at1 r.cmd.taxes.length ct, .int .i64 r.cmd.penalty]) [.string r.cmd.name, .slice al r.cmd.legs.length cl, .int .i64 r.cmd.fare, .slice at1 r.cmd.taxes.length ct, .int .i64 r.cmd.penalty] rfl (by kernel_rfl) (Nat.le_of_ble_eq_true rfl) (by rfl)
    exact res_st (x_store rfl (e3) (e8) hr) (goes_tick rfl (0, undef) rfl hm)
  ·
   intro e a2 w2 hz2 hd hG hO hM
   have hd2 := hd.trans hd1
   have g2_2 := (hO 2 rfl).trans g2_1
   have g3_2 : a2.tmps[3]? = some (.pointer (some ⟨(e 0).1, 0, none⟩)) := hG 3 _ 3 rfl rfl
   have hM2 : Mem (boxC ((e 0).1) #[.string r.cmd.name, .slice al r.cmd.legs.length cl, .int .i64 r.cmd.fare, .slice at1 r.cmd.taxes.length ct, .int .i64 r.cmd.penalty] :: boxC b1_0 (recCells r (.slice al r.cmd.legs.length cl) (.slice at1 r.cmd.taxes.length ct)) :: R) w2 := hM
   clear hM hG hO hd
   clear hz1 hd1 hM1 g1_1 g2_1
   generalize (e 0).1 = b2_0 at *
   refine then_n ?_
   refine wp_seq ?_
   obtain ⟨z2_4, hz2_4⟩ : ∃ z : Bool, z = (decide ((r.cmd.name.size : Int) > 32)) := ⟨_, rfl⟩
   obtain ⟨z2_10, hz2_10⟩ : ∃ z : Bool, z = (z2_4 || (decide ((r.cmd.legs.length : Int) > 4))) := ⟨_, rfl⟩
   refine region_seq 44 (fun zz e => (#[.pointer (some ⟨b2_0, 0, none⟩), .string r.cmd.name, .int .i64 (r.cmd.name.size : Int), .bool (decide ((r.cmd.name.size : Int) > 32)), .bool z2_4, (gd z2_4 false (.pointer (some ⟨b2_0, 1, none⟩))), (gd z2_4 false (.slice al r.cmd.legs.length cl)), (gd z2_4 false (.int .i64 (r.cmd.legs.length : Int))), (gd z2_4 false (.bool (decide ((r.cmd.legs.length : Int) > 4)))), .bool (z2_4 || (decide ((r.cmd.legs.length : Int) > 4))), .bool z2_10, (gd z2_10 false (.pointer (some ⟨b2_0, 3, none⟩))), (gd z2_10 false (.slice at1 r.cmd.taxes.length ct)), (gd z2_10 false (.int .i64 (r.cmd.taxes.length : Int))), (gd z2_10 false (.bool (decide ((r.cmd.taxes.length : Int) > 4)))), .bool (z2_10 || (decide ((r.cmd.taxes.length : Int) > 4))), .bool (z2_10 || (decide ((r.cmd.taxes.length : Int) > 4)))] : Array Value).getD zz undef) (fun k e w => Mem (List.getD [boxC b2_0 #[.string r.cmd.name, .slice al r.cmd.legs.length cl, .int .i64 r.cmd.fare, .slice at1 r.cmd.taxes.length ct, .int .i64 r.cmd.penalty] :: boxC b1_0 (recCells r (.slice al r.cmd.legs.length cl) (.slice at1 r.cmd.taxes.length ct)) :: R] k []) w) (fun _ => (0, undef)) [] [0, 0, 0, 0, 0, 0, 0, 0, 0, 0, 0, 0, 0, 0, 0, 0, 0] (fun _ _ => false) hz2 (by kernel_rfl) (by kernel_rfl) (by kernel_rfl) ?_ (show Mem _ _ from hM2) ?_ ?_
   · exact ⟨fun _ _ _ => rfl, fun _ _ _ => rfl, fun _ _ _ => rfl, fun _ _ _ => rfl, fun _ _ _ => rfl, fun _ _ _ => rfl, fun _ _ _ => rfl, fun _ _ _ => rfl, fun _ _ _ => rfl, fun _ _ _ => rfl, fun _ _ _ => rfl, fun _ _ _ => rfl, fun _ _ _ => rfl, fun _ _ _ => rfl, fun _ _ _ => rfl, fun _ _ _ => rfl, fun _ _ _ => rfl, trivial⟩
   ·
    refine ⟨?_, ?_, ?_, ?_, ?_, ?_, ?_, ?_, ?_, ?_, ?_, ?_, ?_, ?_, ?_, ?_, ?_, trivial⟩
    · exact op2 (a := 0) rfl fun e w ρ (hM : Mem _ w) E => res_ok (x_fieldAddr (off := 0) rfl (E.o 3 _ rfl g3_2) (by kernel_rfl) rfl) (goes_still rfl rfl hM)
    · exact op2 (a := 0) rfl fun e w ρ (hM : Mem _ w) E => res_ok (x_load rfl (E.d 0 _ 9 rfl rfl rfl) (by kernel_rfl) ((hM.box 0 rfl).cell 0 rfl)) (goes_still rfl rfl hM)
    ·
     refine op2 (a := 0) rfl fun e w ρ (hM : Mem _ w) E => ?_
     have e10 : ρ (.tmp 10) = .string r.cmd.name := E.d 1 _ 10 rfl rfl rfl
     exact res_ok (x_lenS rfl rfl rfl rfl (e10) (by kernel_rfl)) (goes_still rfl rfl hM)
    · exact op2 (a := 0) rfl fun e w ρ (hM : Mem _ w) E => res_ok (x_gtr rfl (E.d 2 _ 11 rfl rfl rfl) (E.c _) rfl) (goes_still rfl rfl hM)
    · exact op2 (a := 0) rfl fun e w ρ (hM : Mem _ w) E => res_ok (x_move rfl (E.d 3 _ 12 rfl rfl rfl)) (goes_still rfl (congrArg Value.bool hz2_4.symm) hM)
    · exact op3 (a := 0) z2_4 rfl (fun _ => rfl) rfl (fun hC _ => (gd_no hC).symm) fun hC e w ρ (hM : Mem _ w) E => res_ok (x_fieldAddr (off := 1) rfl (E.o 3 _ rfl g3_2) (by kernel_rfl) rfl) (goes_still rfl (gd_yes hC).symm hM)
    · exact op3 (a := 0) z2_4 rfl (fun _ => rfl) rfl (fun hC _ => (gd_no hC).symm) fun hC e w ρ (hM : Mem _ w) E => res_ok (x_load rfl ((E.d 5 _ 14 rfl rfl rfl).trans (gd_yes hC)) (by kernel_rfl) ((hM.box 0 rfl).cell 1 rfl)) (goes_still rfl (gd_yes hC).symm hM)
    ·
     refine op3 (a := 0) z2_4 rfl (fun _ => rfl) rfl (fun hC _ => (gd_no hC).symm) fun hC e w ρ (hM : Mem _ w) E => ?_
     have e15 : ρ (.tmp 15) = .slice al r.cmd.legs.length cl := ((E.d 6 _ 15 rfl rfl rfl).trans (gd_yes hC))
     exact res_ok (x_len (n := 3) rfl rfl rfl rfl (e15) (by kernel_rfl)) (goes_still rfl (gd_yes hC).symm hM)
    · exact op3 (a := 0) z2_4 rfl (fun _ => rfl) rfl (fun hC _ => (gd_no hC).symm) fun hC e w ρ (hM : Mem _ w) E => res_ok (x_gtr rfl ((E.d 7 _ 16 rfl rfl rfl).trans (gd_yes hC)) (E.c _) rfl) (goes_still rfl (gd_yes hC).symm hM)
    · exact op2 (a := 0) rfl fun e w ρ (hM : Mem _ w) E => res_ok (x_pickOr rfl (E.d 4 _ 13 rfl rfl rfl) (fun hC => ((E.d 8 _ 17 rfl rfl rfl).trans (gd_f hC))) (E.c _)) (goes_still rfl rfl hM)
    · exact op2 (a := 0) rfl fun e w ρ (hM : Mem _ w) E => res_ok (x_move rfl (E.d 9 _ 18 rfl rfl rfl)) (goes_still rfl (congrArg Value.bool hz2_10.symm) hM)
    · exact op3 (a := 0) z2_10 rfl (fun _ => rfl) rfl (fun hC _ => (gd_no hC).symm) fun hC e w ρ (hM : Mem _ w) E => res_ok (x_fieldAddr (off := 3) rfl (E.o 3 _ rfl g3_2) (by kernel_rfl) rfl) (goes_still rfl (gd_yes hC).symm hM)
    · exact op3 (a := 0) z2_10 rfl (fun _ => rfl) rfl (fun hC _ => (gd_no hC).symm) fun hC e w ρ (hM : Mem _ w) E => res_ok (x_load rfl ((E.d 11 _ 20 rfl rfl rfl).trans (gd_yes hC)) (by kernel_rfl) ((hM.box 0 rfl).cell 3 rfl)) (goes_still rfl (gd_yes hC).symm hM)
    ·
     refine op3 (a := 0) z2_10 rfl (fun _ => rfl) rfl (fun hC _ => (gd_no hC).symm) fun hC e w ρ (hM : Mem _ w) E => ?_
     have e21 : ρ (.tmp 21) = .slice at1 r.cmd.taxes.length ct := ((E.d 12 _ 21 rfl rfl rfl).trans (gd_yes hC))
     exact res_ok (x_len (n := 2) rfl rfl rfl rfl (e21) (by kernel_rfl)) (goes_still rfl (gd_yes hC).symm hM)
    · exact op3 (a := 0) z2_10 rfl (fun _ => rfl) rfl (fun hC _ => (gd_no hC).symm) fun hC e w ρ (hM : Mem _ w) E => res_ok (x_gtr rfl ((E.d 13 _ 22 rfl rfl rfl).trans (gd_yes hC)) (E.c _) rfl) (goes_still rfl (gd_yes hC).symm hM)
    · exact op2 (a := 0) rfl fun e w ρ (hM : Mem _ w) E => res_ok (x_pickOr rfl (E.d 10 _ 19 rfl rfl rfl) (fun hC => ((E.d 14 _ 23 rfl rfl rfl).trans (gd_f hC))) (E.c _)) (goes_still rfl rfl hM)
    · exact op2 (a := 0) rfl fun e w ρ (hM : Mem _ w) E => res_ok (x_assign rfl (E.d 15 _ 24 rfl rfl rfl)) (goes_still rfl rfl hM)
   ·
    intro e a3 w3 hz3 hd hG hO hM
    have hd3 := hd.trans hd2
    have g2_3 := (hO 2 rfl).trans g2_2
    have g3_3 := (hO 3 rfl).trans g3_2
    have g4_3 : a3.tmps[4]? = some (.bool (z2_10 || (decide ((r.cmd.taxes.length : Int) > 4)))) := hG 16 _ 4 rfl rfl
    have hM3 : Mem (boxC b2_0 #[.string r.cmd.name, .slice al r.cmd.legs.length cl, .int .i64 r.cmd.fare, .slice at1 r.cmd.taxes.length ct, .int .i64 r.cmd.penalty] :: boxC b1_0 (recCells r (.slice al r.cmd.legs.length cl) (.slice at1 r.cmd.taxes.length ct)) :: R) w3 := hM
    clear hM hG hO hd
    clear hz2 hd2 hM2 g2_2 g3_2
    refine then_n ?_
    refine wp_seq ?_
    refine wp_seq ?_
    refine region_seq 44 (fun zz e => (#[.int .i64 0] : Array Value).getD zz undef) (fun k e w => Mem (List.getD [boxC b2_0 #[.string r.cmd.name, .slice al r.cmd.legs.length cl, .int .i64 r.cmd.fare, .slice at1 r.cmd.taxes.length ct, .int .i64 r.cmd.penalty] :: boxC b1_0 (recCells r (.slice al r.cmd.legs.length cl) (.slice at1 r.cmd.taxes.length ct)) :: R] k []) w) (fun _ => (0, undef)) [] [0] (fun _ _ => false) hz3 (by kernel_rfl) (by kernel_rfl) (by kernel_rfl) ?_ (show Mem _ _ from hM3) ?_ ?_
    · exact ⟨fun _ _ _ => rfl, trivial⟩
    ·
     refine ⟨?_, trivial⟩
     · exact op2 (a := 0) rfl fun e w ρ (hM : Mem _ w) E => res_ok (x_assign rfl (E.c _)) (goes_still rfl rfl hM)
    ·
     intro e a4 w4 hz4 hd hG hO hM
     have hd4 := hd.trans hd3
     have g2_4 := (hO 2 rfl).trans g2_3
     have g3_4 := (hO 3 rfl).trans g3_3
     have g4_4 := (hO 4 rfl).trans g4_3
     have g5_4 : a4.tmps[5]? = some (.int .i64 0) := hG 0 _ 5 rfl rfl
     have hM4 : Mem (boxC b2_0 #[.string r.cmd.name, .slice al r.cmd.legs.length cl, .int .i64 r.cmd.fare, .slice at1 r.cmd.taxes.length ct, .int .i64 r.cmd.penalty] :: boxC b1_0 (recCells r (.slice al r.cmd.legs.length cl) (.slice at1 r.cmd.taxes.length ct)) :: R) w4 := hM
     clear hM hG hO hd
     clear hz3 hd3 hM3 g2_3 g3_3 g4_3
     refine then_n ?_
     refine wp_block ?_
     refine loopx (X := Nat × Bool) (fun xx aa ww => (fun (i : Nat) (bb : Bool) => aa.tmps.size = 44 ∧ aa.defers = [] ∧ aa.tmps[2]? = some (.bool false) ∧ aa.tmps[3]? = some (.pointer (some ⟨b2_0, 0, none⟩)) ∧ aa.tmps[4]? = some (.bool bb) ∧ aa.tmps[5]? = some (.int .i64 (i : Int)) ∧ Mem (boxC b2_0 #[.string r.cmd.name, .slice al r.cmd.legs.length cl, .int .i64 r.cmd.fare, .slice at1 r.cmd.taxes.length ct, .int .i64 r.cmd.penalty] :: boxC b1_0 (recCells r (.slice al r.cmd.legs.length cl) (.slice at1 r.cmd.taxes.length ct)) :: R) ww ∧ i ≤ r.cmd.taxes.length ∧ (bb || (r.cmd.taxes.drop i).any longT) = longB r) xx.1 xx.2) (fun xx => (fun (i : Nat) (bb : Bool) => r.cmd.taxes.length - i) xx.1 xx.2) ((0, z2_10 || (decide ((r.cmd.taxes.length : Int) > 4)))) ?_ ?_
     ·
      exact ⟨hz4, hd4, g2_4, g3_4, g4_4, (by have h := g5_4; exact h.trans (by congr 2 <;> first | rfl | omega)), (hM4), (Nat.zero_le _), (by rw [List.drop_zero, show (z2_10 || (decide ((r.cmd.taxes.length : Int) > 4))) = longS r from by simp only [hz2_4, hz2_10]; rfl]; rfl)⟩
     ·
      clear hz4 hd4 hM4 g2_4 g3_4 g4_4 g5_4
      rintro ⟨i, bb⟩ a5 w5 hI
      dsimp only at hI ⊢
      obtain ⟨hz5, hd5, g2_5, g3_5, g4_5, g5_5, hM5, hi, hp⟩ := hI
      refine wp_seq ?_
      refine wp_seq ?_
      refine region_seq 44 (fun zz e => (#[.int .i64 (i : Int), .pointer (some ⟨b2_0, 3, none⟩), .slice at1 r.cmd.taxes.length ct, .int .i64 (r.cmd.taxes.length : Int), .bool (decide ((i : Int) < (r.cmd.taxes.length : Int)))] : Array Value).getD zz undef) (fun k e w => Mem (List.getD [boxC b2_0 #[.string r.cmd.name, .slice al r.cmd.legs.length cl, .int .i64 r.cmd.fare, .slice at1 r.cmd.taxes.length ct, .int .i64 r.cmd.penalty] :: boxC b1_0 (recCells r (.slice al r.cmd.legs.length cl) (.slice at1 r.cmd.taxes.length ct)) :: R] k []) w) (fun _ => (0, undef)) [] [0, 0, 0, 0, 0] (fun _ _ => false) hz5 (by kernel_rfl) (by kernel_rfl) (by kernel_rfl) ?_ (show Mem _ _ from hM5) ?_ ?_
      · exact ⟨fun _ _ _ => rfl, fun _ _ _ => rfl, fun _ _ _ => rfl, fun _ _ _ => rfl, fun _ _ _ => rfl, trivial⟩
      ·
       refine ⟨?_, ?_, ?_, ?_, ?_, trivial⟩
       · exact op2 (a := 0) rfl fun e w ρ (hM : Mem _ w) E => res_ok (x_move rfl (E.o 5 _ rfl g5_5)) (goes_still rfl rfl hM)
       · exact op2 (a := 0) rfl fun e w ρ (hM : Mem _ w) E => res_ok (x_fieldAddr (off := 3) rfl (E.o 3 _ rfl g3_5) (by kernel_rfl) rfl) (goes_still rfl rfl hM)
       · exact op2 (a := 0) rfl fun e w ρ (hM : Mem _ w) E => res_ok (x_load rfl (E.d 1 _ 26 rfl rfl rfl) (by kernel_rfl) ((hM.box 0 rfl).cell 3 rfl)) (goes_still rfl rfl hM)
       ·
        refine op2 (a := 0) rfl fun e w ρ (hM : Mem _ w) E => ?_
        have e27 : ρ (.tmp 27) = .slice at1 r.cmd.taxes.length ct := E.d 2 _ 27 rfl rfl rfl
        exact res_ok (x_len (n := 2) rfl rfl rfl rfl (e27) (by kernel_rfl)) (goes_still rfl rfl hM)
       · exact op2 (a := 0) rfl fun e w ρ (hM : Mem _ w) E => res_ok (x_lss rfl (E.d 0 _ 25 rfl rfl rfl) (E.d 3 _ 28 rfl rfl rfl) rfl) (goes_still rfl rfl hM)
      ·
       intro e a6 w6 hz6 hd hG hO hM
       have hd6 := hd.trans hd5
       have g2_6 := (hO 2 rfl).trans g2_5
       have g3_6 := (hO 3 rfl).trans g3_5
       have g4_6 := (hO 4 rfl).trans g4_5
       have g5_6 := (hO 5 rfl).trans g5_5
       have g25_6 : a6.tmps[25]? = some (.int .i64 (i : Int)) := hG 0 _ 25 rfl rfl
       have g26_6 : a6.tmps[26]? = some (.pointer (some ⟨b2_0, 3, none⟩)) := hG 1 _ 26 rfl rfl
       have g27_6 : a6.tmps[27]? = some (.slice at1 r.cmd.taxes.length ct) := hG 2 _ 27 rfl rfl
       have g28_6 : a6.tmps[28]? = some (.int .i64 (r.cmd.taxes.length : Int)) := hG 3 _ 28 rfl rfl
       have g29_6 : a6.tmps[29]? = some (.bool (decide ((i : Int) < (r.cmd.taxes.length : Int)))) := hG 4 _ 29 rfl rfl
       have hM6 : Mem (boxC b2_0 #[.string r.cmd.name, .slice al r.cmd.legs.length cl, .int .i64 r.cmd.fare, .slice at1 r.cmd.taxes.length ct, .int .i64 r.cmd.penalty] :: boxC b1_0 (recCells r (.slice al r.cmd.legs.length cl) (.slice at1 r.cmd.taxes.length ct)) :: R) w6 := hM
       clear hM hG hO hd
       clear hz5 hd5 hM5 g2_5 g3_5 g4_5 g5_5
       refine then_n ?_
       by_cases hic : (i : Int) < (r.cmd.taxes.length : Int)
       ·
        refine cond_t (g29_6.trans (by rw [decide_eq_true hic])) ?_
        obtain ⟨x, hx⟩ := list_at (show i < r.cmd.taxes.length by omega)
        obtain ⟨b1, o1, ha1, hcx⟩ := ht.elem (show ∀ x, (taxE x).length = 2 from fun _ => rfl) (by decide) hx hM6.tail.tail
        refine wp_skip ?_
        refine then_n ?_
        refine wp_seq ?_
        refine wp_block ?_
        obtain ⟨z6_1, hz6_1⟩ : ∃ z : Bool, z = (bb) := ⟨_, rfl⟩
        refine region_seq 44 (fun zz e => (#[.bool bb, .bool z6_1, (gd z6_1 false (.pointer (some ⟨b2_0, 3, none⟩))), (gd z6_1 false (.slice at1 r.cmd.taxes.length ct)), (gd z6_1 false (.int .i64 (i : Int))), (gd z6_1 false (.pointer (some ⟨b1, o1 + i * 2, none⟩))), (gd z6_1 false (.pointer (some ⟨b1, o1 + i * 2, none⟩))), (gd z6_1 false (.string x.code)), (gd z6_1 false (.int .i64 (x.code.size : Int))), (gd z6_1 false (.bool (decide ((x.code.size : Int) > 32)))), .bool (z6_1 || (decide ((x.code.size : Int) > 32))), .bool (z6_1 || (decide ((x.code.size : Int) > 32)))] : Array Value).getD zz undef) (fun k e w => Mem (List.getD [boxC b2_0 #[.string r.cmd.name, .slice al r.cmd.legs.length cl, .int .i64 r.cmd.fare, .slice at1 r.cmd.taxes.length ct, .int .i64 r.cmd.penalty] :: boxC b1_0 (recCells r (.slice al r.cmd.legs.length cl) (.slice at1 r.cmd.taxes.length ct)) :: R] k []) w) (fun _ => (0, undef)) [] [0, 0, 0, 0, 0, 0, 0, 0, 0, 0, 0, 0] (fun i t => (i == 0 && t == 4)) hz6 (by kernel_rfl) (by kernel_rfl) (by kernel_rfl) ?_ (show Mem _ _ from hM6) ?_ ?_
        · exact ⟨fun _ _ _ => rfl, fun _ _ _ => rfl, fun _ _ _ => rfl, fun _ _ _ => rfl, fun _ _ _ => rfl, fun _ _ _ => rfl, fun _ _ _ => rfl, fun _ _ _ => rfl, fun _ _ _ => rfl, fun _ _ _ => rfl, fun _ _ _ => rfl, fun _ _ _ => rfl, trivial⟩
        ·
         refine ⟨?_, ?_, ?_, ?_, ?_, ?_, ?_, ?_, ?_, ?_, ?_, ?_, trivial⟩
         · exact op2 (a := 0) rfl fun e w ρ (hM : Mem _ w) E => res_ok (x_move rfl (E.o 4 _ rfl g4_6)) (goes_still rfl rfl hM)
         · exact op2 (a := 0) rfl fun e w ρ (hM : Mem _ w) E => res_ok (x_move rfl (E.d 0 _ 32 rfl rfl rfl)) (goes_still rfl (congrArg Value.bool hz6_1.symm) hM)
         · exact op3 (a := 0) z6_1 rfl (fun _ => rfl) rfl (fun hC _ => (gd_no hC).symm) fun hC e w ρ (hM : Mem _ w) E => res_ok (x_fieldAddr (off := 3) rfl (E.o 3 _ rfl g3_6) (by kernel_rfl) rfl) (goes_still rfl (gd_yes hC).symm hM)
         · exact op3 (a := 0) z6_1 rfl (fun _ => rfl) rfl (fun hC _ => (gd_no hC).symm) fun hC e w ρ (hM : Mem _ w) E => res_ok (x_load rfl ((E.d 2 _ 34 rfl rfl rfl).trans (gd_yes hC)) (by kernel_rfl) ((hM.box 0 rfl).cell 3 rfl)) (goes_still rfl (gd_yes hC).symm hM)
         · exact op3 (a := 0) z6_1 rfl (fun _ => rfl) rfl (fun hC _ => (gd_no hC).symm) fun hC e w ρ (hM : Mem _ w) E => res_ok (x_move rfl (E.o 5 _ rfl g5_6)) (goes_still rfl (gd_yes hC).symm hM)
         ·
          refine op3 (a := 0) z6_1 rfl (fun _ => rfl) rfl (fun hC _ => (gd_no hC).symm) fun hC e w ρ (hM : Mem _ w) E => ?_
          have e35 : ρ (.tmp 35) = .slice at1 r.cmd.taxes.length ct := ((E.d 3 _ 35 rfl rfl rfl).trans (gd_yes hC))
          have e36 : ρ (.tmp 36) = .int .i64 (i : Int) := ((E.d 4 _ 36 rfl rfl rfl).trans (gd_yes hC))
          exact res_ok (x_idx (n := 2) (i := i) rfl (show _ = Value.slice (some ⟨b1, o1, none⟩) (r.cmd.taxes.length) ct from by rw [← ha1]; exact e35) (e36) (by kernel_rfl) (by omega) rfl) (goes_still rfl (gd_yes hC).symm hM)
         · exact op3 (a := 0) z6_1 rfl (fun _ => rfl) rfl (fun hC _ => (gd_no hC).symm) fun hC e w ρ (hM : Mem _ w) E => res_ok (x_fieldAddr (off := 0) rfl ((E.d 5 _ 37 rfl rfl rfl).trans (gd_yes hC)) (by kernel_rfl) rfl) (goes_still rfl (gd_yes hC).symm hM)
         ·
          refine op3 (a := 0) z6_1 rfl (fun _ => rfl) rfl (fun hC _ => (gd_no hC).symm) fun hC e w ρ (hM : Mem _ w) E => ?_
          have e38 : ρ (.tmp 38) = .pointer (some ⟨b1, o1 + i * 2, none⟩) := ((E.d 6 _ 38 rfl rfl rfl).trans (gd_yes hC))
          exact res_ok (x_load rfl (e38) (by kernel_rfl) (hcx w hM.tail.tail 0 _ rfl)) (goes_still rfl (gd_yes hC).symm hM)
         ·
          refine op3 (a := 0) z6_1 rfl (fun _ => rfl) rfl (fun hC _ => (gd_no hC).symm) fun hC e w ρ (hM : Mem _ w) E => ?_
          have e39 : ρ (.tmp 39) = .string x.code := ((E.d 7 _ 39 rfl rfl rfl).trans (gd_yes hC))
          exact res_ok (x_lenS rfl rfl rfl rfl (e39) (by kernel_rfl)) (goes_still rfl (gd_yes hC).symm hM)
         · exact op3 (a := 0) z6_1 rfl (fun _ => rfl) rfl (fun hC _ => (gd_no hC).symm) fun hC e w ρ (hM : Mem _ w) E => res_ok (x_gtr rfl ((E.d 8 _ 40 rfl rfl rfl).trans (gd_yes hC)) (E.c _) rfl) (goes_still rfl (gd_yes hC).symm hM)
         · exact op2 (a := 0) rfl fun e w ρ (hM : Mem _ w) E => res_ok (x_pickOr rfl (E.d 1 _ 33 rfl rfl rfl) (fun hC => ((E.d 9 _ 41 rfl rfl rfl).trans (gd_f hC))) (E.c _)) (goes_still rfl rfl hM)
         · exact op2 (a := 0) rfl fun e w ρ (hM : Mem _ w) E => res_ok (x_assign rfl (E.d 10 _ 42 rfl rfl rfl)) (goes_still rfl rfl hM)
        ·
         intro e a7 w7 hz7 hd hG hO hM
         have hd7 := hd.trans hd6
         have g2_7 := (hO 2 rfl).trans g2_6
         have g3_7 := (hO 3 rfl).trans g3_6
         have g4_7 : a7.tmps[4]? = some (.bool (z6_1 || (decide ((x.code.size : Int) > 32)))) := hG 11 _ 4 rfl rfl
         have g5_7 := (hO 5 rfl).trans g5_6
         have g25_7 := (hO 25 rfl).trans g25_6
         have g26_7 := (hO 26 rfl).trans g26_6
         have g27_7 := (hO 27 rfl).trans g27_6
         have g28_7 := (hO 28 rfl).trans g28_6
         have g29_7 := (hO 29 rfl).trans g29_6
         have g32_7 : a7.tmps[32]? = some (.bool bb) := hG 0 _ 32 rfl rfl
         have g33_7 : a7.tmps[33]? = some (.bool z6_1) := hG 1 _ 33 rfl rfl
         have g42_7 : a7.tmps[42]? = some (.bool (z6_1 || (decide ((x.code.size : Int) > 32)))) := hG 10 _ 42 rfl rfl
         have hM7 : Mem (boxC b2_0 #[.string r.cmd.name, .slice al r.cmd.legs.length cl, .int .i64 r.cmd.fare, .slice at1 r.cmd.taxes.length ct, .int .i64 r.cmd.penalty] :: boxC b1_0 (recCells r (.slice al r.cmd.legs.length cl) (.slice at1 r.cmd.taxes.length ct)) :: R) w7 := hM
         clear hM hG hO hd
         clear hz6 hd6 hM6 g2_6 g3_6 g4_6 g5_6 g25_6 g26_6 g27_6 g28_6 g29_6
         refine blk_n ?_
         refine then_n ?_
         refine region_seq 44 (fun zz e => (#[.int .i64 (i : Int), .int .i64 ((i + 1 : Nat) : Int), .int .i64 ((i + 1 : Nat) : Int)] : Array Value).getD zz undef) (fun k e w => Mem (List.getD [boxC b2_0 #[.string r.cmd.name, .slice al r.cmd.legs.length cl, .int .i64 r.cmd.fare, .slice at1 r.cmd.taxes.length ct, .int .i64 r.cmd.penalty] :: boxC b1_0 (recCells r (.slice al r.cmd.legs.length cl) (.slice at1 r.cmd.taxes.length ct)) :: R] k []) w) (fun _ => (0, undef)) [] [0, 0, 0] (fun i t => (i == 0 && t == 5)) hz7 (by kernel_rfl) (by kernel_rfl) (by kernel_rfl) ?_ (show Mem _ _ from hM7) ?_ ?_
         · exact ⟨fun _ _ _ => rfl, fun _ _ _ => rfl, fun _ _ _ => rfl, trivial⟩
         ·
          refine ⟨?_, ?_, ?_, trivial⟩
          · exact op2 (a := 0) rfl fun e w ρ (hM : Mem _ w) E => res_ok (x_move rfl (E.o 5 _ rfl g5_7)) (goes_still rfl rfl hM)
          · exact op2 (a := 0) rfl fun e w ρ (hM : Mem _ w) E => res_ok (x_add rfl (E.d 0 _ 30 rfl rfl rfl) (E.c _) ((wr_i64 (by omega)).trans (by omega))) (goes_still rfl rfl hM)
          · exact op2 (a := 0) rfl fun e w ρ (hM : Mem _ w) E => res_ok (x_assign rfl (E.d 1 _ 31 rfl rfl rfl)) (goes_still rfl rfl hM)
         ·
          intro e a8 w8 hz8 hd hG hO hM
          have hd8 := hd.trans hd7
          have g2_8 := (hO 2 rfl).trans g2_7
          have g3_8 := (hO 3 rfl).trans g3_7
          have g4_8 := (hO 4 rfl).trans g4_7
          have g5_8 : a8.tmps[5]? = some (.int .i64 ((i + 1 : Nat) : Int)) := hG 2 _ 5 rfl rfl
          have g25_8 := (hO 25 rfl).trans g25_7
          have g26_8 := (hO 26 rfl).trans g26_7
          have g27_8 := (hO 27 rfl).trans g27_7
          have g28_8 := (hO 28 rfl).trans g28_7
          have g29_8 := (hO 29 rfl).trans g29_7
          have g30_8 : a8.tmps[30]? = some (.int .i64 (i : Int)) := hG 0 _ 30 rfl rfl
          have g31_8 : a8.tmps[31]? = some (.int .i64 ((i + 1 : Nat) : Int)) := hG 1 _ 31 rfl rfl
          have g32_8 := (hO 32 rfl).trans g32_7
          have g33_8 := (hO 33 rfl).trans g33_7
          have g42_8 := (hO 42 rfl).trans g42_7
          have hM8 : Mem (boxC b2_0 #[.string r.cmd.name, .slice al r.cmd.legs.length cl, .int .i64 r.cmd.fare, .slice at1 r.cmd.taxes.length ct, .int .i64 r.cmd.penalty] :: boxC b1_0 (recCells r (.slice al r.cmd.legs.length cl) (.slice at1 r.cmd.taxes.length ct)) :: R) w8 := hM
          clear hM hG hO hd
          clear hz7 hd7 hM7 g2_7 g3_7 g4_7 g5_7 g25_7 g26_7 g27_7 g28_7 g29_7 g32_7 g33_7 g42_7
          refine then_n ?_
          exact ⟨(i + 1, z6_1 || (decide ((x.code.size : Int) > 32))), by omega, ⟨hz8, hd8, g2_8, g3_8, g4_8, (by have h := g5_8; exact h.trans (by congr 2 <;> first | rfl | omega)), (hM8), (by show i + 1 ≤ _; omega), (by show ((z6_1 || (decide ((x.code.size : Int) > 32))) || _) = _; rw [← hp, any_step hx, ← Bool.or_assoc, hz6_1]; rfl)⟩⟩
       ·
        refine cond_f (g29_6.trans (by rw [decide_eq_false hic])) ?_
        refine wp_exit ?_
        refine then_x ?_
        refine then_x ?_
        refine blk_x ?_
        refine then_n ?_
        refine wp_seq ?_
        refine region_seq 44 (fun zz e => (#[.bool bb, .bool bb] : Array Value).getD zz undef) (fun k e w => Mem (List.getD [boxC b2_0 #[.string r.cmd.name, .slice al r.cmd.legs.length cl, .int .i64 r.cmd.fare, .slice at1 r.cmd.taxes.length ct, .int .i64 r.cmd.penalty] :: boxC b1_0 (recCells r (.slice al r.cmd.legs.length cl) (.slice at1 r.cmd.taxes.length ct)) :: R] k []) w) (fun _ => (0, undef)) [] [0, 0] (fun _ _ => false) hz6 (by kernel_rfl) (by kernel_rfl) (by kernel_rfl) ?_ (show Mem _ _ from hM6) ?_ ?_
        · exact ⟨fun _ _ _ => rfl, fun _ _ _ => rfl, trivial⟩
        ·
         refine ⟨?_, ?_, trivial⟩
         · exact op2 (a := 0) rfl fun e w ρ (hM : Mem _ w) E => res_ok (x_move rfl (E.o 4 _ rfl g4_6)) (goes_still rfl rfl hM)
         · exact op2 (a := 0) rfl fun e w ρ (hM : Mem _ w) E => res_ok (x_assign rfl (E.d 0 _ 43 rfl rfl rfl)) (goes_still rfl rfl hM)
        ·
         intro e a9 w9 hz9 hd hG hO hM
         have hd9 := hd.trans hd6
         have g2_9 : a9.tmps[2]? = some (.bool bb) := hG 1 _ 2 rfl rfl
         have hM9 : Mem (boxC b2_0 #[.string r.cmd.name, .slice al r.cmd.legs.length cl, .int .i64 r.cmd.fare, .slice at1 r.cmd.taxes.length ct, .int .i64 r.cmd.penalty] :: boxC b1_0 (recCells r (.slice al r.cmd.legs.length cl) (.slice at1 r.cmd.taxes.length ct)) :: R) w9 := hM
         clear hM hG hO hd
         clear hz6 hd6 hM6 g2_6 g3_6 g4_6 g5_6 g25_6 g26_6 g27_6 g28_6 g29_6
         refine then_n ?_
         refine wp_ret ?_
         refine ret_1 Try.results19 hd9 g2_9 ?_
         exact ⟨by rw [← hp, List.drop_of_length_le (by omega)]; simp, hM9.tail.tail⟩
end Go.Proofs.Ytfcjmpgbohgoeaa
