/- CODEC: Put and Get. -/
import Derived.Test.YtfcjmpgbohgoeaaCo11
namespace Go.Proofs.Ytfcjmpgbohgoeaa
open Go.RowKit Go.Lib Go.Tk Go.Shelf Go.Vc
set_option linter.unusedVariables false
set_option linter.unusedSimpArgs false
attribute [-go_sem] loadCellsFrom
/-- what every record's numbers keep to -/
structure RecW (r : RecV) : Prop where
 n : 0 ≤ r.number ∧ r.number ≤ 18446744073709551615
 c : 0 ≤ r.cmd.tick.r ∧ r.cmd.tick.r ≤ 18446744073709551615
 m : 0 ≤ r.msg.tick.r ∧ r.msg.tick.r ≤ 18446744073709551615
 legs : r.cmd.legs.length ≤ 1000000
 taxes : r.cmd.taxes.length ≤ 1000000
abbrev longV (r : RecV) : Prop := (r.cmd.name.size : Int) > 32 ∨ (r.cmd.legs.length : Int) > 4 ∨ (r.cmd.taxes.length : Int) > 4 ∨ r.cmd.taxes.any longT = true
def putE (r : RecV) : Int := if r.kind < 1 ∨ r.kind > 3 ∨ sameV r (cutV r) = false then 140 else if longV r then 2 else 0
def putB (r : RecV) : List Int := if putE r = 0 then (overF .lay ⟨false, []⟩ r).2.bs else []
theorem recOk_lay {r : RecV} (hw : RecW r) (hl : ¬ longV r) : RecOk .lay r := by
 have h1 : ¬ (r.cmd.name.size : Int) > 32 := fun h => hl (.inl h)
 have h2 : ¬ (r.cmd.legs.length : Int) > 4 := fun h => hl (.inr (.inl h))
 have h3 : ¬ (r.cmd.taxes.length : Int) > 4 := fun h => hl (.inr (.inr (.inl h)))
 refine ⟨⟨hw.c, ?_, ?_, ?_, fun t ht => ?_⟩, ⟨hw.m⟩, hw.n⟩
 · show r.cmd.name.size ≤ 32; omega
 · show r.cmd.legs.length ≤ 4; omega
 · show r.cmd.taxes.length ≤ 4; omega
 ·
  show t.code.size ≤ 32
  rcases Nat.lt_or_ge 32 t.code.size with h | h
  · exact absurd (.inr (.inr (.inr (List.any_eq_true.2 ⟨t, ht, by unfold longT; exact decide_eq_true (by omega)⟩)))) hl
  · exact h
theorem cut1 {r : RecV} (h : r.kind = 1) : cutV r = ⟨r.kind, r.cmd, 0, 0, msg0⟩ := if_pos h
theorem cut2 {r : RecV} (h : r.kind = 2) : cutV r = ⟨r.kind, cmd0, r.frm, r.number, r.msg⟩ := (if_neg (by omega)).trans (if_pos h)
theorem cut3 {r : RecV} (h : ¬ r.kind = 1) (h2 : ¬ r.kind = 2) : cutV r = ⟨r.kind, cmd0, r.frm, r.number, msg0⟩ := (if_neg h).trans (if_neg h2)
set_option maxRecDepth 100000 in
set_option maxHeartbeats 8000000 in
theorem put_at (r : RecV) (al at1 : Option Addr) (cl ct : Nat) (R : List Chunk) (w : World) (hM : Mem R w) (hl : Reads R al (cellsL legE r.cmd.legs)) (ht : Reads R at1 (cellsL taxE r.cmd.taxes)) (hw : RecW r) :
  Calls Try.prog 12 #[.agg (recCells r (.slice al r.cmd.legs.length cl) (.slice at1 r.cmd.taxes.length ct))] w fun e w' => ∃ v, e = .returned (.tuple #[v, .int .i64 (putE r)]) ∧ Mem (rowC 5 1 v (putB r).length ((putB r).map (.int .u8)) :: R) w' := by
 refine enter Try.func12 rfl Try.ntmps12 (Nat.le_of_ble_eq_true rfl) ?_
 intro a0 hz0 hd0 hg0
 have g0_0 : a0.tmps[0]? = some (.agg (recCells r (.slice al r.cmd.legs.length cl) (.slice at1 r.cmd.taxes.length ct))) := hg0 0 _ rfl
 clear hg0
 have hM0 : Mem (R) _ := hM
 refine wp_seq ?_
 refine region_seq 83 (fun zz e => (#[.pointer (some ⟨(e 0).1, 0, none⟩), .slice none 0 0, .int .i64 0] : Array Value).getD zz undef) (fun k e w => Mem (List.getD [R, boxC ((e 0).1) (recCells r (.slice al r.cmd.legs.length cl) (.slice at1 r.cmd.taxes.length ct)) :: R] k []) w) (fun _ => (0, undef)) [0] [0, 1, 1] (fun _ _ => false) hz0 (by kernel_rfl) (by kernel_rfl) (by kernel_rfl) ?_ (show Mem _ _ from hM0) ?_ ?_
 · exact ⟨fun e e' h => congrArg (fun x : Rv => (.pointer (some ⟨x.1, 0, none⟩) : Value)) (h 0 (by decide)), fun _ _ _ => rfl, fun _ _ _ => rfl, trivial⟩
 ·
  refine ⟨?_, ?_, ?_, trivial⟩
  ·
   refine op2 (a := 0) rfl fun e w ρ (hM : Mem _ w) E => ?_
   have e0 : ρ (.tmp 0) = .agg (recCells r (.slice al r.cmd.legs.length cl) (.slice at1 r.cmd.taxes.length ct)) := E.o 0 _ rfl g0_0
   exact res_ok (x_box rfl (e0)) (goes_tick rfl (w.heap.size, undef) rfl (hM.alloc _ _))
  · exact op2 (a := 1) rfl fun e w ρ (hM : Mem _ w) E => res_ok (x_assign rfl (E.c _)) (goes_still rfl rfl hM)
  · exact op2 (a := 1) rfl fun e w ρ (hM : Mem _ w) E => res_ok (x_assign rfl (E.c _)) (goes_still rfl rfl hM)
 ·
  intro e a1 w1 hz1 hd hG hO hM
  have hd1 := hd.trans hd0
  have g1_1 : a1.tmps[1]? = some (.pointer (some ⟨(e 0).1, 0, none⟩)) := hG 0 _ 1 rfl rfl
  have g2_1 : a1.tmps[2]? = some (.slice none 0 0) := hG 1 _ 2 rfl rfl
  have g3_1 : a1.tmps[3]? = some (.int .i64 0) := hG 2 _ 3 rfl rfl
  have hM1 : Mem (boxC ((e 0).1) (recCells r (.slice al r.cmd.legs.length cl) (.slice at1 r.cmd.taxes.length ct)) :: R) w1 := hM
  clear hM hG hO hd
  clear hz0 hd0 hM0 g0_0
  generalize (e 0).1 = b1_0 at *
  refine then_n ?_
  refine wp_seq ?_
  refine seq_cut (fun aa ww => ∃ xx : Bool, (fun bb aa ww => aa.tmps.size = 83 ∧ aa.defers = [] ∧ aa.tmps[1]? = some (.pointer (some ⟨b1_0, 0, none⟩)) ∧ aa.tmps[2]? = some (.slice none 0 0) ∧ aa.tmps[3]? = some (.int .i64 0) ∧ aa.tmps[21]? = some (.bool bb) ∧ Mem (boxC b1_0 (recCells r (.slice al r.cmd.legs.length cl) (.slice at1 r.cmd.taxes.length ct)) :: R) ww ∧ bb = decide (r.kind < 1 ∨ r.kind > 3 ∨ sameV r (cutV r) = false)) xx aa ww) ?_ ?_
  ·
   by_cases hk1 : r.kind < 1
   ·
    refine region_draw 83 (fun zz e => (#[.pointer (some ⟨b1_0, 0, none⟩), .int .u8 r.kind, .bool true, .bool true, undef, undef, undef, .bool true, .bool true, undef, undef, undef, undef, undef, .bool true] : Array Value).getD zz undef) (fun k e w => Mem (List.getD [boxC b1_0 (recCells r (.slice al r.cmd.legs.length cl) (.slice at1 r.cmd.taxes.length ct)) :: R] k []) w) (fun _ => (0, undef)) [] [] [0, 0, 0, 0, 0, 0, 0, 0, 0, 0, 0, 0, 0, 0, 0] [0, 0, 0, 0, 0, 0, 0, 0, 0, 0, 0, 0, 0, 0, 0] (fun _ _ => false) hz1 (by kernel_rfl) (by kernel_rfl) (by kernel_rfl) (by kernel_rfl) (by kernel_rfl) ?_ (show Mem _ _ from hM1.drew) ?_ ?_
    · exact ⟨fun _ _ _ => rfl, fun _ _ _ => rfl, fun _ _ _ => rfl, fun _ _ _ => rfl, fun _ _ _ => rfl, fun _ _ _ => rfl, fun _ _ _ => rfl, fun _ _ _ => rfl, fun _ _ _ => rfl, fun _ _ _ => rfl, fun _ _ _ => rfl, fun _ _ _ => rfl, fun _ _ _ => rfl, fun _ _ _ => rfl, fun _ _ _ => rfl, trivial⟩
    ·
     refine ⟨?_, ?_, ?_, ?_, ?_, ?_, ?_, ?_, ?_, ?_, ?_, ?_, ?_, ?_, ?_, trivial⟩
     · exact op2 (a := 0) rfl fun e w ρ (hM : Mem _ w) E => res_ok (x_fieldAddr (off := 0) rfl (E.o 1 _ rfl g1_1) (by kernel_rfl) rfl) (goes_still rfl rfl hM)
     · exact op2 (a := 0) rfl fun e w ρ (hM : Mem _ w) E => res_ok (x_load rfl (E.d 0 _ 7 rfl rfl rfl) (by kernel_rfl) ((hM.box 0 rfl).cell 0 rfl)) (goes_still rfl rfl hM)
     · exact op2 (a := 0) rfl fun e w ρ (hM : Mem _ w) E => res_ok (x_lss rfl (E.d 1 _ 8 rfl rfl rfl) (E.c _) (decide_eq_true hk1)) (goes_still rfl rfl hM)
     · exact op2 (a := 0) rfl fun e w ρ (hM : Mem _ w) E => res_ok (x_move rfl (E.d 2 _ 9 rfl rfl rfl)) (goes_still rfl rfl hM)
     · exact op1 (a := 0) rfl fun e w ρ hO E => (if_neg Bool.false_ne_true).mpr (goes_still rfl rfl hO)
     · exact op1 (a := 0) rfl fun e w ρ hO E => (if_neg Bool.false_ne_true).mpr (goes_still rfl rfl hO)
     · exact op1 (a := 0) rfl fun e w ρ hO E => (if_neg Bool.false_ne_true).mpr (goes_still rfl rfl hO)
     ·
      refine op2 (a := 0) rfl fun e w ρ (hM : Mem _ w) E => ?_
      have e10 : ρ (.tmp 10) = .bool true := E.d 3 _ 10 rfl rfl rfl
      have e13 : ρ (.tmp 13) = undef := E.d 6 _ 13 rfl rfl rfl
      exact res_ok (x_pick rfl (e10) (E.c _)) (goes_still rfl rfl hM)
     · exact op2 (a := 0) rfl fun e w ρ (hM : Mem _ w) E => res_ok (x_move rfl (E.d 7 _ 14 rfl rfl rfl)) (goes_still rfl rfl hM)
     · exact op1 (a := 0) rfl fun e w ρ hO E => (if_neg Bool.false_ne_true).mpr (goes_still rfl rfl hO)
     · exact op1 (a := 0) rfl fun e w ρ hO E => (if_neg Bool.false_ne_true).mpr (goes_still rfl rfl hO)
     · exact op1 (a := 0) rfl fun e w ρ hO E => (if_neg Bool.false_ne_true).mpr (goes_still rfl rfl hO)
     · exact op1 (a := 0) rfl fun e w ρ hO E => (if_neg Bool.false_ne_true).mpr (goes_still rfl rfl hO)
     · exact op1 (a := 0) rfl fun e w ρ hO E => (if_neg Bool.false_ne_true).mpr (goes_still rfl rfl hO)
     ·
      refine op2 (a := 0) rfl fun e w ρ (hM : Mem _ w) E => ?_
      have e15 : ρ (.tmp 15) = .bool true := E.d 8 _ 15 rfl rfl rfl
      have e20 : ρ (.tmp 20) = undef := E.d 13 _ 20 rfl rfl rfl
      exact res_ok (x_pick rfl (e15) (E.c _)) (goes_still rfl rfl hM)
    ·
     intro e a2 w2 hz2 hd hG hO hM
     have hd2 := hd.trans hd1
     have g1_2 := (hO 1 rfl).trans g1_1
     have g2_2 := (hO 2 rfl).trans g2_1
     have g3_2 := (hO 3 rfl).trans g3_1
     have g21_2 : a2.tmps[21]? = some (.bool true) := hG 14 _ 21 rfl rfl
     have hM2 : Mem (boxC b1_0 (recCells r (.slice al r.cmd.legs.length cl) (.slice at1 r.cmd.taxes.length ct)) :: R) w2 := hM
     clear hM hG hO hd
     clear hz1 hd1 hM1 g1_1 g2_1 g3_1
     refine then_n ?_
     exact ⟨true, ⟨hz2, hd2, g1_2, g2_2, g3_2, g21_2, (hM2), ((decide_eq_true (.inl hk1)).symm)⟩⟩
   ·
    by_cases hk3 : r.kind > 3
    ·
     refine region_draw 83 (fun zz e => (#[.pointer (some ⟨b1_0, 0, none⟩), .int .u8 r.kind, .bool false, .bool false, .pointer (some ⟨b1_0, 0, none⟩), .int .u8 r.kind, .bool true, .bool true, .bool true, undef, undef, undef, undef, undef, .bool true] : Array Value).getD zz undef) (fun k e w => Mem (List.getD [boxC b1_0 (recCells r (.slice al r.cmd.legs.length cl) (.slice at1 r.cmd.taxes.length ct)) :: R] k []) w) (fun _ => (0, undef)) [] [] [0, 0, 0, 0, 0, 0, 0, 0, 0, 0, 0, 0, 0, 0, 0] [0, 0, 0, 0, 0, 0, 0, 0, 0, 0, 0, 0, 0, 0, 0] (fun _ _ => false) hz1 (by kernel_rfl) (by kernel_rfl) (by kernel_rfl) (by kernel_rfl) (by kernel_rfl) ?_ (show Mem _ _ from hM1.drew) ?_ ?_
     · exact ⟨fun _ _ _ => rfl, fun _ _ _ => rfl, fun _ _ _ => rfl, fun _ _ _ => rfl, fun _ _ _ => rfl, fun _ _ _ => rfl, fun _ _ _ => rfl, fun _ _ _ => rfl, fun _ _ _ => rfl, fun _ _ _ => rfl, fun _ _ _ => rfl, fun _ _ _ => rfl, fun _ _ _ => rfl, fun _ _ _ => rfl, fun _ _ _ => rfl, trivial⟩
     ·
      refine ⟨?_, ?_, ?_, ?_, ?_, ?_, ?_, ?_, ?_, ?_, ?_, ?_, ?_, ?_, ?_, trivial⟩
      · exact op2 (a := 0) rfl fun e w ρ (hM : Mem _ w) E => res_ok (x_fieldAddr (off := 0) rfl (E.o 1 _ rfl g1_1) (by kernel_rfl) rfl) (goes_still rfl rfl hM)
      · exact op2 (a := 0) rfl fun e w ρ (hM : Mem _ w) E => res_ok (x_load rfl (E.d 0 _ 7 rfl rfl rfl) (by kernel_rfl) ((hM.box 0 rfl).cell 0 rfl)) (goes_still rfl rfl hM)
      · exact op2 (a := 0) rfl fun e w ρ (hM : Mem _ w) E => res_ok (x_lss rfl (E.d 1 _ 8 rfl rfl rfl) (E.c _) (decide_eq_false hk1)) (goes_still rfl rfl hM)
      · exact op2 (a := 0) rfl fun e w ρ (hM : Mem _ w) E => res_ok (x_move rfl (E.d 2 _ 9 rfl rfl rfl)) (goes_still rfl rfl hM)
      · exact op1 (a := 0) rfl fun e w ρ (hM : Mem _ w) E => (if_pos rfl).mpr (res_ok (x_fieldAddr (off := 0) rfl (E.o 1 _ rfl g1_1) (by kernel_rfl) rfl) (goes_still rfl rfl hM))
      · exact op1 (a := 0) rfl fun e w ρ (hM : Mem _ w) E => (if_pos rfl).mpr (res_ok (x_load rfl (E.d 4 _ 11 rfl rfl rfl) (by kernel_rfl) ((hM.box 0 rfl).cell 0 rfl)) (goes_still rfl rfl hM))
      · exact op1 (a := 0) rfl fun e w ρ (hM : Mem _ w) E => (if_pos rfl).mpr (res_ok (x_gtr rfl (E.d 5 _ 12 rfl rfl rfl) (E.c _) (decide_eq_true hk3)) (goes_still rfl rfl hM))
      ·
       refine op2 (a := 0) rfl fun e w ρ (hM : Mem _ w) E => ?_
       have e10 : ρ (.tmp 10) = .bool false := E.d 3 _ 10 rfl rfl rfl
       have e13 : ρ (.tmp 13) = .bool true := E.d 6 _ 13 rfl rfl rfl
       exact res_ok (x_pick rfl (e10) (e13)) (goes_still rfl rfl hM)
      · exact op2 (a := 0) rfl fun e w ρ (hM : Mem _ w) E => res_ok (x_move rfl (E.d 7 _ 14 rfl rfl rfl)) (goes_still rfl rfl hM)
      · exact op1 (a := 0) rfl fun e w ρ hO E => (if_neg Bool.false_ne_true).mpr (goes_still rfl rfl hO)
      · exact op1 (a := 0) rfl fun e w ρ hO E => (if_neg Bool.false_ne_true).mpr (goes_still rfl rfl hO)
      · exact op1 (a := 0) rfl fun e w ρ hO E => (if_neg Bool.false_ne_true).mpr (goes_still rfl rfl hO)
      · exact op1 (a := 0) rfl fun e w ρ hO E => (if_neg Bool.false_ne_true).mpr (goes_still rfl rfl hO)
      · exact op1 (a := 0) rfl fun e w ρ hO E => (if_neg Bool.false_ne_true).mpr (goes_still rfl rfl hO)
      ·
       refine op2 (a := 0) rfl fun e w ρ (hM : Mem _ w) E => ?_
       have e15 : ρ (.tmp 15) = .bool true := E.d 8 _ 15 rfl rfl rfl
       have e20 : ρ (.tmp 20) = undef := E.d 13 _ 20 rfl rfl rfl
       exact res_ok (x_pick rfl (e15) (E.c _)) (goes_still rfl rfl hM)
     ·
      intro e a3 w3 hz3 hd hG hO hM
      have hd3 := hd.trans hd1
      have g1_3 := (hO 1 rfl).trans g1_1
      have g2_3 := (hO 2 rfl).trans g2_1
      have g3_3 := (hO 3 rfl).trans g3_1
      have g21_3 : a3.tmps[21]? = some (.bool true) := hG 14 _ 21 rfl rfl
      have hM3 : Mem (boxC b1_0 (recCells r (.slice al r.cmd.legs.length cl) (.slice at1 r.cmd.taxes.length ct)) :: R) w3 := hM
      clear hM hG hO hd
      clear hz1 hd1 hM1 g1_1 g2_1 g3_1
      refine then_n ?_
      exact ⟨true, ⟨hz3, hd3, g1_3, g2_3, g3_3, g21_3, (hM3), ((decide_eq_true (.inr (.inl hk3))).symm)⟩⟩
    ·
     by_cases hq1 : r.kind = 1
     ·
      refine region_draw 83 (fun zz e => (#[.pointer (some ⟨b1_0, 0, none⟩), .int .u8 r.kind, .bool false, .bool false, .pointer (some ⟨b1_0, 0, none⟩), .int .u8 r.kind, .bool false, .bool false, .bool false, .agg (recCells r (.slice al r.cmd.legs.length cl) (.slice at1 r.cmd.taxes.length ct)), .agg (recCells r (.slice al r.cmd.legs.length cl) (.slice at1 r.cmd.taxes.length ct)), .agg #[.int .u8 r.kind, .int .u8 r.cmd.kind, .int .u8 r.cmd.tick.c, .int .u64 r.cmd.tick.r, .int .u8 r.cmd.at_, .string r.cmd.name, .slice al r.cmd.legs.length cl, .int .i64 r.cmd.fare, .slice at1 r.cmd.taxes.length ct, .int .i64 r.cmd.penalty, .int .i64 r.cmd.amount, .int .u8 0, .int .u64 0, .int .u8 0, .int .u8 0, .int .u64 0, .int .u8 0, .int .u8 0, .int .u16 0, .int .u32 0, .int .i64 0, .int .u8 0, .int .u32 0, .int .i64 0, .int .i64 0], .bool (sameV r (cutV r)), .bool (!sameV r (cutV r)), .bool (!sameV r (cutV r))] : Array Value).getD zz undef) (fun k e w => Mem (List.getD [boxC b1_0 (recCells r (.slice al r.cmd.legs.length cl) (.slice at1 r.cmd.taxes.length ct)) :: R] k []) w) (fun _ => (0, undef)) [] [] [0, 0, 0, 0, 0, 0, 0, 0, 0, 0, 0, 0, 0, 0, 0] [0, 0, 0, 0, 0, 0, 0, 0, 0, 0, 0, 0, 0, 0, 0] (fun _ _ => false) hz1 (by kernel_rfl) (by kernel_rfl) (by kernel_rfl) (by kernel_rfl) (by kernel_rfl) ?_ (show Mem _ _ from hM1.drew) ?_ ?_
      · exact ⟨fun _ _ _ => rfl, fun _ _ _ => rfl, fun _ _ _ => rfl, fun _ _ _ => rfl, fun _ _ _ => rfl, fun _ _ _ => rfl, fun _ _ _ => rfl, fun _ _ _ => rfl, fun _ _ _ => rfl, fun _ _ _ => rfl, fun _ _ _ => rfl, fun _ _ _ => rfl, fun _ _ _ => rfl, fun _ _ _ => rfl, fun _ _ _ => rfl, trivial⟩
      ·
       refine ⟨?_, ?_, ?_, ?_, ?_, ?_, ?_, ?_, ?_, ?_, ?_, ?_, ?_, ?_, ?_, trivial⟩
       · exact op2 (a := 0) rfl fun e w ρ (hM : Mem _ w) E => res_ok (x_fieldAddr (off := 0) rfl (E.o 1 _ rfl g1_1) (by kernel_rfl) rfl) (goes_still rfl rfl hM)
       · exact op2 (a := 0) rfl fun e w ρ (hM : Mem _ w) E => res_ok (x_load rfl (E.d 0 _ 7 rfl rfl rfl) (by kernel_rfl) ((hM.box 0 rfl).cell 0 rfl)) (goes_still rfl rfl hM)
       · exact op2 (a := 0) rfl fun e w ρ (hM : Mem _ w) E => res_ok (x_lss rfl (E.d 1 _ 8 rfl rfl rfl) (E.c _) (decide_eq_false hk1)) (goes_still rfl rfl hM)
       · exact op2 (a := 0) rfl fun e w ρ (hM : Mem _ w) E => res_ok (x_move rfl (E.d 2 _ 9 rfl rfl rfl)) (goes_still rfl rfl hM)
       · exact op1 (a := 0) rfl fun e w ρ (hM : Mem _ w) E => (if_pos rfl).mpr (res_ok (x_fieldAddr (off := 0) rfl (E.o 1 _ rfl g1_1) (by kernel_rfl) rfl) (goes_still rfl rfl hM))
       · exact op1 (a := 0) rfl fun e w ρ (hM : Mem _ w) E => (if_pos rfl).mpr (res_ok (x_load rfl (E.d 4 _ 11 rfl rfl rfl) (by kernel_rfl) ((hM.box 0 rfl).cell 0 rfl)) (goes_still rfl rfl hM))
       · exact op1 (a := 0) rfl fun e w ρ (hM : Mem _ w) E => (if_pos rfl).mpr (res_ok (x_gtr rfl (E.d 5 _ 12 rfl rfl rfl) (E.c _) (decide_eq_false hk3)) (goes_still rfl rfl hM))
       ·
        refine op2 (a := 0) rfl fun e w ρ (hM : Mem _ w) E => ?_
        have e10 : ρ (.tmp 10) = .bool false := E.d 3 _ 10 rfl rfl rfl
        have e13 : ρ (.tmp 13) = .bool false := E.d 6 _ 13 rfl rfl rfl
        exact res_ok (x_pick rfl (e10) (e13)) (goes_still rfl rfl hM)
       · exact op2 (a := 0) rfl fun e w ρ (hM : Mem _ w) E => res_ok (x_move rfl (E.d 7 _ 14 rfl rfl rfl)) (goes_still rfl rfl hM)
       · exact op1 (a := 0) rfl fun e w ρ (hM : Mem _ w) E => (if_pos rfl).mpr (res_ok (x_loads rfl (E.o 1 _ rfl g1_1) (by kernel_rfl) (load_part (hM.box 0 rfl) [.int .u8 r.kind, .int .u8 r.cmd.kind, .int .u8 r.cmd.tick.c, .int .u64 r.cmd.tick.r, .int .u8 r.cmd.at_, .string r.cmd.name, .slice al r.cmd.legs.length cl, .int .i64 r.cmd.fare, .slice at1 r.cmd.taxes.length ct, .int .i64 r.cmd.penalty, .int .i64 r.cmd.amount, .int .u8 r.frm, .int .u64 r.number, .int .u8 r.msg.kind, .int .u8 r.msg.tick.c, .int .u64 r.msg.tick.r, .int .u8 r.msg.at_, .int .u8 r.msg.leg.c, .int .u16 r.msg.leg.f, .int .u32 r.msg.leg.x, .int .i64 r.msg.value, .int .u8 r.msg.status, .int .u32 r.msg.nonce, .int .i64 r.msg.amount, .int .i64 r.msg.code] rfl (Nat.le_of_ble_eq_true rfl) rfl)) (goes_still rfl rfl hM))
       · exact op1 (a := 0) rfl fun e w ρ (hM : Mem _ w) E => (if_pos rfl).mpr (res_ok (x_loads rfl (E.o 1 _ rfl g1_1) (by kernel_rfl) (load_part (hM.box 0 rfl) [.int .u8 r.kind, .int .u8 r.cmd.kind, .int .u8 r.cmd.tick.c, .int .u64 r.cmd.tick.r, .int .u8 r.cmd.at_, .string r.cmd.name, .slice al r.cmd.legs.length cl, .int .i64 r.cmd.fare, .slice at1 r.cmd.taxes.length ct, .int .i64 r.cmd.penalty, .int .i64 r.cmd.amount, .int .u8 r.frm, .int .u64 r.number, .int .u8 r.msg.kind, .int .u8 r.msg.tick.c, .int .u64 r.msg.tick.r, .int .u8 r.msg.at_, .int .u8 r.msg.leg.c, .int .u16 r.msg.leg.f, .int .u32 r.msg.leg.x, .int .i64 r.msg.value, .int .u8 r.msg.status, .int .u32 r.msg.nonce, .int .i64 r.msg.amount, .int .i64 r.msg.code] rfl (Nat.le_of_ble_eq_true rfl) rfl)) (goes_still rfl rfl hM))
       ·
        refine op1 (a := 0) rfl fun e w ρ (hM : Mem _ w) E => ?_
        have e17 : ρ (.tmp 17) = .agg (recCells r (.slice al r.cmd.legs.length cl) (.slice at1 r.cmd.taxes.length ct)) := E.d 10 _ 17 rfl rfl rfl
        refine (if_pos rfl).mpr ?_
        refine res_in (x_call (args := #[.agg (recCells r (.slice al r.cmd.legs.length cl) (.slice at1 r.cmd.taxes.length ct))]) rfl rfl (E.f _) (by simp [e17]) (by kernel_rfl)) ?_
        refine (cut_at r al at1 cl ct _ _ hM).mono ?_
        rintro e' w' ⟨he, hm⟩
        rw [cut1 hq1, if_pos hq1, if_pos hq1] at he
        subst he
        exact ⟨_, rfl, goes_still rfl rfl (hm)⟩
       ·
        refine op1 (a := 0) rfl fun e w ρ (hM : Mem _ w) E => ?_
        have e16 : ρ (.tmp 16) = .agg (recCells r (.slice al r.cmd.legs.length cl) (.slice at1 r.cmd.taxes.length ct)) := E.d 9 _ 16 rfl rfl rfl
        have e18 : ρ (.tmp 18) = .agg #[.int .u8 r.kind, .int .u8 r.cmd.kind, .int .u8 r.cmd.tick.c, .int .u64 r.cmd.tick.r, .int .u8 r.cmd.at_, .string r.cmd.name, .slice al r.cmd.legs.length cl, .int .i64 r.cmd.fare, .slice at1 r.cmd.taxes.length ct, .int .i64 r.cmd.penalty, .int .i64 r.cmd.amount, .int .u8 0, .int .u64 0, .int .u8 0, .int .u8 0, .int .u64 0, .int .u8 0, .int .u8 0, .int .u16 0, .int .u32 0, .int .i64 0, .int .u8 0, .int .u32 0, .int .i64 0, .int .i64 0] := E.d 11 _ 18 rfl rfl rfl
        refine (if_pos rfl).mpr ?_
        refine res_in (x_call (args := #[.agg (recCells r (.slice al r.cmd.legs.length cl) (.slice at1 r.cmd.taxes.length ct)), .agg #[.int .u8 r.kind, .int .u8 r.cmd.kind, .int .u8 r.cmd.tick.c, .int .u64 r.cmd.tick.r, .int .u8 r.cmd.at_, .string r.cmd.name, .slice al r.cmd.legs.length cl, .int .i64 r.cmd.fare, .slice at1 r.cmd.taxes.length ct, .int .i64 r.cmd.penalty, .int .i64 r.cmd.amount, .int .u8 0, .int .u64 0, .int .u8 0, .int .u8 0, .int .u64 0, .int .u8 0, .int .u8 0, .int .u16 0, .int .u32 0, .int .i64 0, .int .u8 0, .int .u32 0, .int .i64 0, .int .i64 0]]) rfl rfl (E.f _) (by simp [e16, e18]) (by kernel_rfl)) ?_
        refine (same_at r ⟨r.kind, r.cmd, 0, 0, msg0⟩ al at1 al at1 cl ct cl ct _ _ hM (hl.more) (ht.more) ⟨hw.legs, hw.taxes⟩ (hl.more) (ht.more) ⟨hw.legs, hw.taxes⟩).mono ?_
        rintro e' w' ⟨he, hm⟩
        rw [← cut1 hq1] at he
        subst he
        exact ⟨_, rfl, goes_still rfl rfl (hm)⟩
       · exact op1 (a := 0) rfl fun e w ρ (hM : Mem _ w) E => (if_pos rfl).mpr (res_ok (x_not rfl (E.d 12 _ 19 rfl rfl rfl) (rfl)) (goes_still rfl rfl hM))
       ·
        refine op2 (a := 0) rfl fun e w ρ (hM : Mem _ w) E => ?_
        have e15 : ρ (.tmp 15) = .bool false := E.d 8 _ 15 rfl rfl rfl
        have e20 : ρ (.tmp 20) = .bool (!sameV r (cutV r)) := E.d 13 _ 20 rfl rfl rfl
        exact res_ok (x_pick rfl (e15) (e20)) (goes_still rfl rfl hM)
      ·
       intro e a4 w4 hz4 hd hG hO hM
       have hd4 := hd.trans hd1
       have g1_4 := (hO 1 rfl).trans g1_1
       have g2_4 := (hO 2 rfl).trans g2_1
       have g3_4 := (hO 3 rfl).trans g3_1
       have g21_4 : a4.tmps[21]? = some (.bool (!sameV r (cutV r))) := hG 14 _ 21 rfl rfl
       have hM4 : Mem (boxC b1_0 (recCells r (.slice al r.cmd.legs.length cl) (.slice at1 r.cmd.taxes.length ct)) :: R) w4 := hM
       clear hM hG hO hd
       clear hz1 hd1 hM1 g1_1 g2_1 g3_1
       refine then_n ?_
       exact ⟨!sameV r (cutV r), ⟨hz4, hd4, g1_4, g2_4, g3_4, g21_4, (hM4), (by simp [hk1, hk3])⟩⟩
     ·
      by_cases hq2 : r.kind = 2
      ·
       refine region_draw 83 (fun zz e => (#[.pointer (some ⟨b1_0, 0, none⟩), .int .u8 r.kind, .bool false, .bool false, .pointer (some ⟨b1_0, 0, none⟩), .int .u8 r.kind, .bool false, .bool false, .bool false, .agg (recCells r (.slice al r.cmd.legs.length cl) (.slice at1 r.cmd.taxes.length ct)), .agg (recCells r (.slice al r.cmd.legs.length cl) (.slice at1 r.cmd.taxes.length ct)), .agg #[.int .u8 r.kind, .int .u8 0, .int .u8 0, .int .u64 0, .int .u8 0, .string ByteArray.empty, .slice none 0 0, .int .i64 0, .slice none 0 0, .int .i64 0, .int .i64 0, .int .u8 r.frm, .int .u64 r.number, .int .u8 r.msg.kind, .int .u8 r.msg.tick.c, .int .u64 r.msg.tick.r, .int .u8 r.msg.at_, .int .u8 r.msg.leg.c, .int .u16 r.msg.leg.f, .int .u32 r.msg.leg.x, .int .i64 r.msg.value, .int .u8 r.msg.status, .int .u32 r.msg.nonce, .int .i64 r.msg.amount, .int .i64 r.msg.code], .bool (sameV r (cutV r)), .bool (!sameV r (cutV r)), .bool (!sameV r (cutV r))] : Array Value).getD zz undef) (fun k e w => Mem (List.getD [boxC b1_0 (recCells r (.slice al r.cmd.legs.length cl) (.slice at1 r.cmd.taxes.length ct)) :: R] k []) w) (fun _ => (0, undef)) [] [] [0, 0, 0, 0, 0, 0, 0, 0, 0, 0, 0, 0, 0, 0, 0] [0, 0, 0, 0, 0, 0, 0, 0, 0, 0, 0, 0, 0, 0, 0] (fun _ _ => false) hz1 (by kernel_rfl) (by kernel_rfl) (by kernel_rfl) (by kernel_rfl) (by kernel_rfl) ?_ (show Mem _ _ from hM1.drew) ?_ ?_
       · exact ⟨fun _ _ _ => rfl, fun _ _ _ => rfl, fun _ _ _ => rfl, fun _ _ _ => rfl, fun _ _ _ => rfl, fun _ _ _ => rfl, fun _ _ _ => rfl, fun _ _ _ => rfl, fun _ _ _ => rfl, fun _ _ _ => rfl, fun _ _ _ => rfl, fun _ _ _ => rfl, fun _ _ _ => rfl, fun _ _ _ => rfl, fun _ _ _ => rfl, trivial⟩
       ·
        refine ⟨?_, ?_, ?_, ?_, ?_, ?_, ?_, ?_, ?_, ?_, ?_, ?_, ?_, ?_, ?_, trivial⟩
        · exact op2 (a := 0) rfl fun e w ρ (hM : Mem _ w) E => res_ok (x_fieldAddr (off := 0) rfl (E.o 1 _ rfl g1_1) (by kernel_rfl) rfl) (goes_still rfl rfl hM)
        · exact op2 (a := 0) rfl fun e w ρ (hM : Mem _ w) E => res_ok (x_load rfl (E.d 0 _ 7 rfl rfl rfl) (by kernel_rfl) ((hM.box 0 rfl).cell 0 rfl)) (goes_still rfl rfl hM)
        · exact op2 (a := 0) rfl fun e w ρ (hM : Mem _ w) E => res_ok (x_lss rfl (E.d 1 _ 8 rfl rfl rfl) (E.c _) (decide_eq_false hk1)) (goes_still rfl rfl hM)
        · exact op2 (a := 0) rfl fun e w ρ (hM : Mem _ w) E => res_ok (x_move rfl (E.d 2 _ 9 rfl rfl rfl)) (goes_still rfl rfl hM)
        · exact op1 (a := 0) rfl fun e w ρ (hM : Mem _ w) E => (if_pos rfl).mpr (res_ok (x_fieldAddr (off := 0) rfl (E.o 1 _ rfl g1_1) (by kernel_rfl) rfl) (goes_still rfl rfl hM))
        · exact op1 (a := 0) rfl fun e w ρ (hM : Mem _ w) E => (if_pos rfl).mpr (res_ok (x_load rfl (E.d 4 _ 11 rfl rfl rfl) (by kernel_rfl) ((hM.box 0 rfl).cell 0 rfl)) (goes_still rfl rfl hM))
        · exact op1 (a := 0) rfl fun e w ρ (hM : Mem _ w) E => (if_pos rfl).mpr (res_ok (x_gtr rfl (E.d 5 _ 12 rfl rfl rfl) (E.c _) (decide_eq_false hk3)) (goes_still rfl rfl hM))
        ·
         refine op2 (a := 0) rfl fun e w ρ (hM : Mem _ w) E => ?_
         have e10 : ρ (.tmp 10) = .bool false := E.d 3 _ 10 rfl rfl rfl
         have e13 : ρ (.tmp 13) = .bool false := E.d 6 _ 13 rfl rfl rfl
         exact res_ok (x_pick rfl (e10) (e13)) (goes_still rfl rfl hM)
        · exact op2 (a := 0) rfl fun e w ρ (hM : Mem _ w) E => res_ok (x_move rfl (E.d 7 _ 14 rfl rfl rfl)) (goes_still rfl rfl hM)
        · exact op1 (a := 0) rfl fun e w ρ (hM : Mem _ w) E => (if_pos rfl).mpr (res_ok (x_loads rfl (E.o 1 _ rfl g1_1) (by kernel_rfl) (load_part (hM.box 0 rfl) [.int .u8 r.kind, .int .u8 r.cmd.kind, .int .u8 r.cmd.tick.c, .int .u64 r.cmd.tick.r, .int .u8 r.cmd.at_, .string r.cmd.name, .slice al r.cmd.legs.length cl, .int .i64 r.cmd.fare, .slice at1 r.cmd.taxes.length ct, .int .i64 r.cmd.penalty, .int .i64 r.cmd.amount, .int .u8 r.frm, .int .u64 r.number, .int .u8 r.msg.kind, .int .u8 r.msg.tick.c, .int .u64 r.msg.tick.r, .int .u8 r.msg.at_, .int .u8 r.msg.leg.c, .int .u16 r.msg.leg.f, .int .u32 r.msg.leg.x, .int .i64 r.msg.value, .int .u8 r.msg.status, .int .u32 r.msg.nonce, .int .i64 r.msg.amount, .int .i64 r.msg.code] rfl (Nat.le_of_ble_eq_true rfl) rfl)) (goes_still rfl rfl hM))
        · exact op1 (a := 0) rfl fun e w ρ (hM : Mem _ w) E => (if_pos rfl).mpr (res_ok (x_loads rfl (E.o 1 _ rfl g1_1) (by kernel_rfl) (load_part (hM.box 0 rfl) [.int .u8 r.kind, .int .u8 r.cmd.kind, .int .u8 r.cmd.tick.c, .int .u64 r.cmd.tick.r, .int .u8 r.cmd.at_, .string r.cmd.name, .slice al r.cmd.legs.length cl, .int .i64 r.cmd.fare, .slice at1 r.cmd.taxes.length ct, .int .i64 r.cmd.penalty, .int .i64 r.cmd.amount, .int .u8 r.frm, .int .u64 r.number, .int .u8 r.msg.kind, .int .u8 r.msg.tick.c, .int .u64 r.msg.tick.r, .int .u8 r.msg.at_, .int .u8 r.msg.leg.c, .int .u16 r.msg.leg.f, .int .u32 r.msg.leg.x, .int .i64 r.msg.value, .int .u8 r.msg.status, .int .u32 r.msg.nonce, .int .i64 r.msg.amount, .int .i64 r.msg.code] rfl (Nat.le_of_ble_eq_true rfl) rfl)) (goes_still rfl rfl hM))
        ·
         refine op1 (a := 0) rfl fun e w ρ (hM : Mem _ w) E => ?_
         have e17 : ρ (.tmp 17) = .agg (recCells r (.slice al r.cmd.legs.length cl) (.slice at1 r.cmd.taxes.length ct)) := E.d 10 _ 17 rfl rfl rfl
         refine (if_pos rfl).mpr ?_
         refine res_in (x_call (args := #[.agg (recCells r (.slice al r.cmd.legs.length cl) (.slice at1 r.cmd.taxes.length ct))]) rfl rfl (E.f _) (by simp [e17]) (by kernel_rfl)) ?_
         refine (cut_at r al at1 cl ct _ _ hM).mono ?_
         rintro e' w' ⟨he, hm⟩
         rw [cut2 hq2, if_neg hq1, if_neg hq1] at he
         subst he
         exact ⟨_, rfl, goes_still rfl rfl (hm)⟩
        ·
         refine op1 (a := 0) rfl fun e w ρ (hM : Mem _ w) E => ?_
         have e16 : ρ (.tmp 16) = .agg (recCells r (.slice al r.cmd.legs.length cl) (.slice at1 r.cmd.taxes.length ct)) := E.d 9 _ 16 rfl rfl rfl
         have e18 : ρ (.tmp 18) = .agg #[.int .u8 r.kind, .int .u8 0, .int .u8 0, .int .u64 0, .int .u8 0, .string ByteArray.empty, .slice none 0 0, .int .i64 0, .slice none 0 0, .int .i64 0, .int .i64 0, .int .u8 r.frm, .int .u64 r.number, .int .u8 r.msg.kind, .int .u8 r.msg.tick.c, .int .u64 r.msg.tick.r, .int .u8 r.msg.at_, .int .u8 r.msg.leg.c, .int .u16 r.msg.leg.f, .int .u32 r.msg.leg.x, .int .i64 r.msg.value, .int .u8 r.msg.status, .int .u32 r.msg.nonce, .int .i64 r.msg.amount, .int .i64 r.msg.code] := E.d 11 _ 18 rfl rfl rfl
         refine (if_pos rfl).mpr ?_
         refine res_in (x_call (args := #[.agg (recCells r (.slice al r.cmd.legs.length cl) (.slice at1 r.cmd.taxes.length ct)), .agg #[.int .u8 r.kind, .int .u8 0, .int .u8 0, .int .u64 0, .int .u8 0, .string ByteArray.empty, .slice none 0 0, .int .i64 0, .slice none 0 0, .int .i64 0, .int .i64 0, .int .u8 r.frm, .int .u64 r.number, .int .u8 r.msg.kind, .int .u8 r.msg.tick.c, .int .u64 r.msg.tick.r, .int .u8 r.msg.at_, .int .u8 r.msg.leg.c, .int .u16 r.msg.leg.f, .int .u32 r.msg.leg.x, .int .i64 r.msg.value, .int .u8 r.msg.status, .int .u32 r.msg.nonce, .int .i64 r.msg.amount, .int .i64 r.msg.code]]) rfl rfl (E.f _) (by simp [e16, e18]) (by kernel_rfl)) ?_
         refine (same_at r ⟨r.kind, cmd0, r.frm, r.number, r.msg⟩ al at1 none none cl ct 0 0 _ _ hM (hl.more) (ht.more) ⟨hw.legs, hw.taxes⟩ Reads.nil Reads.nil ⟨Nat.zero_le _, Nat.zero_le _⟩).mono ?_
         rintro e' w' ⟨he, hm⟩
         rw [← cut2 hq2] at he
         subst he
         exact ⟨_, rfl, goes_still rfl rfl (hm)⟩
        · exact op1 (a := 0) rfl fun e w ρ (hM : Mem _ w) E => (if_pos rfl).mpr (res_ok (x_not rfl (E.d 12 _ 19 rfl rfl rfl) (rfl)) (goes_still rfl rfl hM))
        ·
         refine op2 (a := 0) rfl fun e w ρ (hM : Mem _ w) E => ?_
         have e15 : ρ (.tmp 15) = .bool false := E.d 8 _ 15 rfl rfl rfl
         have e20 : ρ (.tmp 20) = .bool (!sameV r (cutV r)) := E.d 13 _ 20 rfl rfl rfl
         exact res_ok (x_pick rfl (e15) (e20)) (goes_still rfl rfl hM)
       ·
        intro e a5 w5 hz5 hd hG hO hM
        have hd5 := hd.trans hd1
        have g1_5 := (hO 1 rfl).trans g1_1
        have g2_5 := (hO 2 rfl).trans g2_1
        have g3_5 := (hO 3 rfl).trans g3_1
        have g21_5 : a5.tmps[21]? = some (.bool (!sameV r (cutV r))) := hG 14 _ 21 rfl rfl
        have hM5 : Mem (boxC b1_0 (recCells r (.slice al r.cmd.legs.length cl) (.slice at1 r.cmd.taxes.length ct)) :: R) w5 := hM
        clear hM hG hO hd
        clear hz1 hd1 hM1 g1_1 g2_1 g3_1
        refine then_n ?_
        exact ⟨!sameV r (cutV r), ⟨hz5, hd5, g1_5, g2_5, g3_5, g21_5, (hM5), (by simp [hk1, hk3])⟩⟩
      ·
       refine region_draw 83 (fun zz e => (#[.pointer (some ⟨b1_0, 0, none⟩), .int .u8 r.kind, .bool false, .bool false, .pointer (some ⟨b1_0, 0, none⟩), .int .u8 r.kind, .bool false, .bool false, .bool false, .agg (recCells r (.slice al r.cmd.legs.length cl) (.slice at1 r.cmd.taxes.length ct)), .agg (recCells r (.slice al r.cmd.legs.length cl) (.slice at1 r.cmd.taxes.length ct)), .agg #[.int .u8 r.kind, .int .u8 0, .int .u8 0, .int .u64 0, .int .u8 0, .string ByteArray.empty, .slice none 0 0, .int .i64 0, .slice none 0 0, .int .i64 0, .int .i64 0, .int .u8 r.frm, .int .u64 r.number, .int .u8 0, .int .u8 0, .int .u64 0, .int .u8 0, .int .u8 0, .int .u16 0, .int .u32 0, .int .i64 0, .int .u8 0, .int .u32 0, .int .i64 0, .int .i64 0], .bool (sameV r (cutV r)), .bool (!sameV r (cutV r)), .bool (!sameV r (cutV r))] : Array Value).getD zz undef) (fun k e w => Mem (List.getD [boxC b1_0 (recCells r (.slice al r.cmd.legs.length cl) (.slice at1 r.cmd.taxes.length ct)) :: R] k []) w) (fun _ => (0, undef)) [] [] [0, 0, 0, 0, 0, 0, 0, 0, 0, 0, 0, 0, 0, 0, 0] [0, 0, 0, 0, 0, 0, 0, 0, 0, 0, 0, 0, 0, 0, 0] (fun _ _ => false) hz1 (by kernel_rfl) (by kernel_rfl) (by kernel_rfl) (by kernel_rfl) (by kernel_rfl) ?_ (show Mem _ _ from hM1.drew) ?_ ?_
       · exact ⟨fun _ _ _ => rfl, fun _ _ _ => rfl, fun _ _ _ => rfl, fun _ _ _ => rfl, fun _ _ _ => rfl, fun _ _ _ => rfl, fun _ _ _ => rfl, fun _ _ _ => rfl, fun _ _ _ => rfl, fun _ _ _ => rfl, fun _ _ _ => rfl, fun _ _ _ => rfl, fun _ _ _ => rfl, fun _ _ _ => rfl, fun _ _ _ => rfl, trivial⟩
       ·
        refine ⟨?_, ?_, ?_, ?_, ?_, ?_, ?_, ?_, ?_, ?_, ?_, ?_, ?_, ?_, ?_, trivial⟩
        · exact op2 (a := 0) rfl fun e w ρ (hM : Mem _ w) E => res_ok (x_fieldAddr (off := 0) rfl (E.o 1 _ rfl g1_1) (by kernel_rfl) rfl) (goes_still rfl rfl hM)
        · exact op2 (a := 0) rfl fun e w ρ (hM : Mem _ w) E => res_ok (x_load rfl (E.d 0 _ 7 rfl rfl rfl) (by kernel_rfl) ((hM.box 0 rfl).cell 0 rfl)) (goes_still rfl rfl hM)
        · exact op2 (a := 0) rfl fun e w ρ (hM : Mem _ w) E => res_ok (x_lss rfl (E.d 1 _ 8 rfl rfl rfl) (E.c _) (decide_eq_false hk1)) (goes_still rfl rfl hM)
        · exact op2 (a := 0) rfl fun e w ρ (hM : Mem _ w) E => res_ok (x_move rfl (E.d 2 _ 9 rfl rfl rfl)) (goes_still rfl rfl hM)
        · exact op1 (a := 0) rfl fun e w ρ (hM : Mem _ w) E => (if_pos rfl).mpr (res_ok (x_fieldAddr (off := 0) rfl (E.o 1 _ rfl g1_1) (by kernel_rfl) rfl) (goes_still rfl rfl hM))
        · exact op1 (a := 0) rfl fun e w ρ (hM : Mem _ w) E => (if_pos rfl).mpr (res_ok (x_load rfl (E.d 4 _ 11 rfl rfl rfl) (by kernel_rfl) ((hM.box 0 rfl).cell 0 rfl)) (goes_still rfl rfl hM))
        · exact op1 (a := 0) rfl fun e w ρ (hM : Mem _ w) E => (if_pos rfl).mpr (res_ok (x_gtr rfl (E.d 5 _ 12 rfl rfl rfl) (E.c _) (decide_eq_false hk3)) (goes_still rfl rfl hM))
        ·
         refine op2 (a := 0) rfl fun e w ρ (hM : Mem _ w) E => ?_
         have e10 : ρ (.tmp 10) = .bool false := E.d 3 _ 10 rfl rfl rfl
         have e13 : ρ (.tmp 13) = .bool false := E.d 6 _ 13 rfl rfl rfl
         exact res_ok (x_pick rfl (e10) (e13)) (goes_still rfl rfl hM)
        · exact op2 (a := 0) rfl fun e w ρ (hM : Mem _ w) E => res_ok (x_move rfl (E.d 7 _ 14 rfl rfl rfl)) (goes_still rfl rfl hM)
        · exact op1 (a := 0) rfl fun e w ρ (hM : Mem _ w) E => (if_pos rfl).mpr (res_ok (x_loads rfl (E.o 1 _ rfl g1_1) (by kernel_rfl) (load_part (hM.box 0 rfl) [.int .u8 r.kind, .int .u8 r.cmd.kind, .int .u8 r.cmd.tick.c, .int .u64 r.cmd.tick.r, .int .u8 r.cmd.at_, .string r.cmd.name, .slice al r.cmd.legs.length cl, .int .i64 r.cmd.fare, .slice at1 r.cmd.taxes.length ct, .int .i64 r.cmd.penalty, .int .i64 r.cmd.amount, .int .u8 r.frm, .int .u64 r.number, .int .u8 r.msg.kind, .int .u8 r.msg.tick.c, .int .u64 r.msg.tick.r, .int .u8 r.msg.at_, .int .u8 r.msg.leg.c, .int .u16 r.msg.leg.f, .int .u32 r.msg.leg.x, .int .i64 r.msg.value, .int .u8 r.msg.status, .int .u32 r.msg.nonce, .int .i64 r.msg.amount, .int .i64 r.msg.code] rfl (Nat.le_of_ble_eq_true rfl) rfl)) (goes_still rfl rfl hM))
        · exact op1 (a := 0) rfl fun e w ρ (hM : Mem _ w) E => (if_pos rfl).mpr (res_ok (x_loads rfl (E.o 1 _ rfl g1_1) (by kernel_rfl) (load_part (hM.box 0 rfl) [.int .u8 r.kind, .int .u8 r.cmd.kind, .int .u8 r.cmd.tick.c, .int .u64 r.cmd.tick.r, .int .u8 r.cmd.at_, .string r.cmd.name, .slice al r.cmd.legs.length cl, .int .i64 r.cmd.fare, .slice at1 r.cmd.taxes.length ct, .int .i64 r.cmd.penalty, .int .i64 r.cmd.amount, .int .u8 r.frm, .int .u64 r.number, .int .u8 r.msg.kind, .int .u8 r.msg.tick.c, .int .u64 r.msg.tick.r, .int .u8 r.msg.at_, .int .u8 r.msg.leg.c, .int .u16 r.msg.leg.f, .int .u32 r.msg.leg.x, .int .i64 r.msg.value, .int .u8 r.msg.status, .int .u32 r.msg.nonce, .int .i64 r.msg.amount, .int .i64 r.msg.code] rfl (Nat.le_of_ble_eq_true rfl) rfl)) (goes_still rfl rfl hM))
        ·
         refine op1 (a := 0) rfl fun e w ρ (hM : Mem _ w) E => ?_
         have e17 : ρ (.tmp 17) = .agg (recCells r (.slice al r.cmd.legs.length cl) (.slice at1 r.cmd.taxes.length ct)) := E.d 10 _ 17 rfl rfl rfl
         refine (if_pos rfl).mpr ?_
         refine res_in (x_call (args := #[.agg (recCells r (.slice al r.cmd.legs.length cl) (.slice at1 r.cmd.taxes.length ct))]) rfl rfl (E.f _) (by simp [e17]) (by kernel_rfl)) ?_
         refine (cut_at r al at1 cl ct _ _ hM).mono ?_
         rintro e' w' ⟨he, hm⟩
         rw [cut3 hq1 hq2, if_neg hq1, if_neg hq1] at he
         subst he
         exact ⟨_, rfl, goes_still rfl rfl (hm)⟩
        ·
         refine op1 (a := 0) rfl fun e w ρ (hM : Mem _ w) E => ?_
         have e16 : ρ (.tmp 16) = .agg (recCells r (.slice al r.cmd.legs.length cl) (.slice at1 r.cmd.taxes.length ct)) := E.d 9 _ 16 rfl rfl rfl
         have e18 : ρ (.tmp 18) = .agg #[.int .u8 r.kind, .int .u8 0, .int .u8 0, .int .u64 0, .int .u8 0, .string ByteArray.empty, .slice none 0 0, .int .i64 0, .slice none 0 0, .int .i64 0, .int .i64 0, .int .u8 r.frm, .int .u64 r.number, .int .u8 0, .int .u8 0, .int .u64 0, .int .u8 0, .int .u8 0, .int .u16 0, .int .u32 0, .int .i64 0, .int .u8 0, .int .u32 0, .int .i64 0, .int .i64 0] := E.d 11 _ 18 rfl rfl rfl
         refine (if_pos rfl).mpr ?_
         refine res_in (x_call (args := #[.agg (recCells r (.slice al r.cmd.legs.length cl) (.slice at1 r.cmd.taxes.length ct)), .agg #[.int .u8 r.kind, .int .u8 0, .int .u8 0, .int .u64 0, .int .u8 0, .string ByteArray.empty, .slice none 0 0, .int .i64 0, .slice none 0 0, .int .i64 0, .int .i64 0, .int .u8 r.frm, .int .u64 r.number, .int .u8 0, .int .u8 0, .int .u64 0, .int .u8 0, .int .u8 0, .int .u16 0, .int .u32 0, .int .i64 0, .int .u8 0, .int .u32 0, .int .i64 0, .int .i64 0]]) rfl rfl (E.f _) (by simp [e16, e18]) (by kernel_rfl)) ?_
         refine (same_at r ⟨r.kind, cmd0, r.frm, r.number, msg0⟩ al at1 none none cl ct 0 0 _ _ hM (hl.more) (ht.more) ⟨hw.legs, hw.taxes⟩ Reads.nil Reads.nil ⟨Nat.zero_le _, Nat.zero_le _⟩).mono ?_
         rintro e' w' ⟨he, hm⟩
         rw [← cut3 hq1 hq2] at he
         subst he
         exact ⟨_, rfl, goes_still rfl rfl (hm)⟩
        · exact op1 (a := 0) rfl fun e w ρ (hM : Mem _ w) E => (if_pos rfl).mpr (res_ok (x_not rfl (E.d 12 _ 19 rfl rfl rfl) (rfl)) (goes_still rfl rfl hM))
        ·
         refine op2 (a := 0) rfl fun e w ρ (hM : Mem _ w) E => ?_
         have e15 : ρ (.tmp 15) = .bool false := E.d 8 _ 15 rfl rfl rfl
         have e20 : ρ (.tmp 20) = .bool (!sameV r (cutV r)) := E.d 13 _ 20 rfl rfl rfl
         exact res_ok (x_pick rfl (e15) (e20)) (goes_still rfl rfl hM)
       ·
        intro e a6 w6 hz6 hd hG hO hM
        have hd6 := hd.trans hd1
        have g1_6 := (hO 1 rfl).trans g1_1
        have g2_6 := (hO 2 rfl).trans g2_1
        have g3_6 := (hO 3 rfl).trans g3_1
        have g21_6 : a6.tmps[21]? = some (.bool (!sameV r (cutV r))) := hG 14 _ 21 rfl rfl
        have hM6 : Mem (boxC b1_0 (recCells r (.slice al r.cmd.legs.length cl) (.slice at1 r.cmd.taxes.length ct)) :: R) w6 := hM
        clear hM hG hO hd
        clear hz1 hd1 hM1 g1_1 g2_1 g3_1
        refine then_n ?_
        exact ⟨!sameV r (cutV r), ⟨hz6, hd6, g1_6, g2_6, g3_6, g21_6, (hM6), (by simp [hk1, hk3])⟩⟩
  ·
   clear hz1 hd1 hM1 g1_1 g2_1 g3_1
   rintro a7 w7 ⟨bb, hI⟩
   try dsimp only at hI
   obtain ⟨hz7, hd7, g1_7, g2_7, g3_7, g21_7, hM7, hbb⟩ := hI
   cases hc5 : bb
   ·
    refine cond_f (g21_7.trans (by rw [hc5])) ?_
    refine wp_skip ?_
    refine then_n ?_
    refine wp_seq ?_
    refine region_seq 83 (fun zz e => (#[.pointer (some ⟨b1_0, 1, none⟩), .pointer (some ⟨b1_0, 5, none⟩), .pointer (some ⟨b1_0, 5, none⟩)] : Array Value).getD zz undef) (fun k e w => Mem (List.getD [boxC b1_0 (recCells r (.slice al r.cmd.legs.length cl) (.slice at1 r.cmd.taxes.length ct)) :: R] k []) w) (fun _ => (0, undef)) [] [0, 0, 0] (fun _ _ => false) hz7 (by kernel_rfl) (by kernel_rfl) (by kernel_rfl) ?_ (show Mem _ _ from hM7) ?_ ?_
    · exact ⟨fun _ _ _ => rfl, fun _ _ _ => rfl, fun _ _ _ => rfl, trivial⟩
    ·
     refine ⟨?_, ?_, ?_, trivial⟩
     · exact op2 (a := 0) rfl fun e w ρ (hM : Mem _ w) E => res_ok (x_fieldAddr (off := 1) rfl (E.o 1 _ rfl g1_7) (by kernel_rfl) rfl) (goes_still rfl rfl hM)
     · exact op2 (a := 0) rfl fun e w ρ (hM : Mem _ w) E => res_ok (x_fieldAddr (off := 4) rfl (E.d 0 _ 22 rfl rfl rfl) (by kernel_rfl) rfl) (goes_still rfl rfl hM)
     · exact op2 (a := 0) rfl fun e w ρ (hM : Mem _ w) E => res_ok (x_assign rfl (E.d 1 _ 23 rfl rfl rfl)) (goes_still rfl rfl hM)
    ·
     intro e a8 w8 hz8 hd hG hO hM
     have hd8 := hd.trans hd7
     have g1_8 := (hO 1 rfl).trans g1_7
     have g2_8 := (hO 2 rfl).trans g2_7
     have g3_8 := (hO 3 rfl).trans g3_7
     have g4_8 : a8.tmps[4]? = some (.pointer (some ⟨b1_0, 5, none⟩)) := hG 2 _ 4 rfl rfl
     have hM8 : Mem (boxC b1_0 (recCells r (.slice al r.cmd.legs.length cl) (.slice at1 r.cmd.taxes.length ct)) :: R) w8 := hM
     clear hM hG hO hd
     clear hz7 hd7 hM7 g1_7 g2_7 g3_7 g21_7
     refine then_n ?_
     refine wp_seq ?_
     refine region_seq 83 (fun zz e => (#[.pointer (some ⟨(e 0).1, 0, none⟩), undef] : Array Value).getD zz undef) (fun k e w => Mem (List.getD [boxC b1_0 (recCells r (.slice al r.cmd.legs.length cl) (.slice at1 r.cmd.taxes.length ct)) :: R, boxC ((e 0).1) #[.nilFunc] :: boxC b1_0 (recCells r (.slice al r.cmd.legs.length cl) (.slice at1 r.cmd.taxes.length ct)) :: R, boxC ((e 0).1) #[.func (.func 22) #[] #[]] :: boxC b1_0 (recCells r (.slice al r.cmd.legs.length cl) (.slice at1 r.cmd.taxes.length ct)) :: R] k []) w) (fun _ => (0, undef)) [0, 1] [0, 1] (fun _ _ => false) hz8 (by kernel_rfl) (by kernel_rfl) (by kernel_rfl) ?_ (show Mem _ _ from hM8) ?_ ?_
     · exact ⟨fun e e' h => congrArg (fun x : Rv => (.pointer (some ⟨x.1, 0, none⟩) : Value)) (h 0 (by decide)), fun _ _ _ => rfl, trivial⟩
     ·
      refine ⟨?_, ?_, trivial⟩
      ·
       refine op2 (a := 0) rfl fun e w ρ (hM : Mem _ w) E => ?_
       exact res_ok (x_alloc (z := .nilFunc) rfl (by kernel_rfl)) (goes_tick rfl (w.heap.size, undef) rfl (hM.alloc _ _))
      ·
       refine op2 (a := 1) rfl fun e w ρ (hM : Mem _ w) E => ?_
       have e5 := E.d 0 _ 5 rfl rfl rfl
       obtain ⟨w', hr, hm⟩ := Mem.store (P := Try.prog) hM 0 rfl 63 0 (.func (.func 22) #[] #[]) [.func (.func 22) #[] #[]] rfl (by kernel_rfl) (Nat.le_of_ble_eq_true rfl) (by rfl)
       exact res_st (x_store rfl (e5) (E.f _) hr) (goes_tick rfl (0, undef) rfl hm)
     ·
      intro e a9 w9 hz9 hd hG hO hM
      have hd9 := hd.trans hd8
      have g1_9 := (hO 1 rfl).trans g1_8
      have g2_9 := (hO 2 rfl).trans g2_8
      have g3_9 := (hO 3 rfl).trans g3_8
      have g4_9 := (hO 4 rfl).trans g4_8
      have g5_9 : a9.tmps[5]? = some (.pointer (some ⟨(e 0).1, 0, none⟩)) := hG 0 _ 5 rfl rfl
      have hM9 : Mem (boxC ((e 0).1) #[.func (.func 22) #[] #[]] :: boxC b1_0 (recCells r (.slice al r.cmd.legs.length cl) (.slice at1 r.cmd.taxes.length ct)) :: R) w9 := hM
      clear hM hG hO hd
      clear hz8 hd8 hM8 g1_8 g2_8 g3_8 g4_8
      generalize (e 0).1 = b9_0 at *
      refine then_n ?_
      refine wp_seq ?_
      refine wp_seq ?_
      by_cases hn : (r.cmd.name.size : Int) > 32
      ·
       refine region_draw 83 (fun zz e => (#[.func (.func 22) #[] #[], .pointer (some ⟨b1_0, 5, none⟩), .pointer (some ⟨b1_0, 5, none⟩), .pointer (some ⟨b1_0, 5, none⟩), .string r.cmd.name, .bool true, .bool true, undef, undef, undef, undef, undef, undef, .bool true, .bool true, undef, undef, undef, undef, undef, undef, .bool true, .bool true, undef, undef, undef, undef, undef, undef, .bool true] : Array Value).getD zz undef) (fun k e w => Mem (List.getD [boxC b9_0 #[.func (.func 22) #[] #[]] :: boxC b1_0 (recCells r (.slice al r.cmd.legs.length cl) (.slice at1 r.cmd.taxes.length ct)) :: R] k []) w) (fun _ => (0, undef)) [] [] [0, 0, 0, 0, 0, 0, 0, 0, 0, 0, 0, 0, 0, 0, 0, 0, 0, 0, 0, 0, 0, 0, 0, 0, 0, 0, 0, 0, 0, 0] [0, 0, 0, 0, 0, 0, 0, 0, 0, 0, 0, 0, 0, 0, 0, 0, 0, 0, 0, 0, 0, 0, 0, 0, 0, 0, 0, 0, 0, 0] (fun _ _ => false) hz9 (by kernel_rfl) (by kernel_rfl) (by kernel_rfl) (by kernel_rfl) (by kernel_rfl) ?_ (show Mem _ _ from hM9.drew) ?_ ?_
       · exact ⟨fun _ _ _ => rfl, fun _ _ _ => rfl, fun _ _ _ => rfl, fun _ _ _ => rfl, fun _ _ _ => rfl, fun _ _ _ => rfl, fun _ _ _ => rfl, fun _ _ _ => rfl, fun _ _ _ => rfl, fun _ _ _ => rfl, fun _ _ _ => rfl, fun _ _ _ => rfl, fun _ _ _ => rfl, fun _ _ _ => rfl, fun _ _ _ => rfl, fun _ _ _ => rfl, fun _ _ _ => rfl, fun _ _ _ => rfl, fun _ _ _ => rfl, fun _ _ _ => rfl, fun _ _ _ => rfl, fun _ _ _ => rfl, fun _ _ _ => rfl, fun _ _ _ => rfl, fun _ _ _ => rfl, fun _ _ _ => rfl, fun _ _ _ => rfl, fun _ _ _ => rfl, fun _ _ _ => rfl, fun _ _ _ => rfl, trivial⟩
       ·
        refine ⟨?_, ?_, ?_, ?_, ?_, ?_, ?_, ?_, ?_, ?_, ?_, ?_, ?_, ?_, ?_, ?_, ?_, ?_, ?_, ?_, ?_, ?_, ?_, ?_, ?_, ?_, ?_, ?_, ?_, ?_, trivial⟩
        · exact op2 (a := 0) rfl fun e w ρ (hM : Mem _ w) E => res_ok (x_load rfl (E.o 5 _ rfl g5_9) (by kernel_rfl) ((hM.box 0 rfl).cell 0 rfl)) (goes_still rfl rfl hM)
        · exact op2 (a := 0) rfl fun e w ρ (hM : Mem _ w) E => res_ok (x_move rfl (E.o 4 _ rfl g4_9)) (goes_still rfl rfl hM)
        · exact op2 (a := 0) rfl fun e w ρ (hM : Mem _ w) E => res_ok (x_nil rfl (E.d 1 _ 25 rfl rfl rfl)) (goes_still rfl rfl hM)
        · exact op2 (a := 0) rfl fun e w ρ (hM : Mem _ w) E => res_ok (x_fieldAddr (off := 0) rfl (E.d 2 _ 26 rfl rfl rfl) (by kernel_rfl) rfl) (goes_still rfl rfl hM)
        · exact op2 (a := 0) rfl fun e w ρ (hM : Mem _ w) E => res_ok (x_load rfl (E.d 3 _ 27 rfl rfl rfl) (by kernel_rfl) ((hM.box 1 rfl).cell 5 rfl)) (goes_still rfl rfl hM)
        ·
         refine op2 (a := 0) rfl fun e w ρ (hM : Mem _ w) E => ?_
         have e24 : ρ (.tmp 24) = .func (.func 22) #[] #[] := E.d 0 _ 24 rfl rfl rfl
         have e28 : ρ (.tmp 28) = .string r.cmd.name := E.d 4 _ 28 rfl rfl rfl
         refine res_in (x_call (args := #[.string r.cmd.name]) rfl rfl (e24) (by simp [e28]) (by kernel_rfl)) ?_
         refine (put1_at r.cmd.name _ _ hM).mono ?_
         rintro e' w' ⟨he, hm⟩
         rw [decide_eq_true hn] at he
         subst he
         exact ⟨_, rfl, goes_still rfl rfl (hm)⟩
        · exact op2 (a := 0) rfl fun e w ρ (hM : Mem _ w) E => res_ok (x_move rfl (E.d 5 _ 29 rfl rfl rfl)) (goes_still rfl rfl hM)
        · exact op1 (a := 0) rfl fun e w ρ hO E => (if_neg Bool.false_ne_true).mpr (goes_still rfl rfl hO)
        · exact op1 (a := 0) rfl fun e w ρ hO E => (if_neg Bool.false_ne_true).mpr (goes_still rfl rfl hO)
        · exact op1 (a := 0) rfl fun e w ρ hO E => (if_neg Bool.false_ne_true).mpr (goes_still rfl rfl hO)
        · exact op1 (a := 0) rfl fun e w ρ hO E => (if_neg Bool.false_ne_true).mpr (goes_still rfl rfl hO)
        · exact op1 (a := 0) rfl fun e w ρ hO E => (if_neg Bool.false_ne_true).mpr (goes_still rfl rfl hO)
        · exact op1 (a := 0) rfl fun e w ρ hO E => (if_neg Bool.false_ne_true).mpr (goes_still rfl rfl hO)
        ·
         refine op2 (a := 0) rfl fun e w ρ (hM : Mem _ w) E => ?_
         have e30 : ρ (.tmp 30) = .bool true := E.d 6 _ 30 rfl rfl rfl
         have e36 : ρ (.tmp 36) = undef := E.d 12 _ 36 rfl rfl rfl
         exact res_ok (x_pick rfl (e30) (E.c _)) (goes_still rfl rfl hM)
        · exact op2 (a := 0) rfl fun e w ρ (hM : Mem _ w) E => res_ok (x_move rfl (E.d 13 _ 37 rfl rfl rfl)) (goes_still rfl rfl hM)
        · exact op1 (a := 0) rfl fun e w ρ hO E => (if_neg Bool.false_ne_true).mpr (goes_still rfl rfl hO)
        · exact op1 (a := 0) rfl fun e w ρ hO E => (if_neg Bool.false_ne_true).mpr (goes_still rfl rfl hO)
        · exact op1 (a := 0) rfl fun e w ρ hO E => (if_neg Bool.false_ne_true).mpr (goes_still rfl rfl hO)
        · exact op1 (a := 0) rfl fun e w ρ hO E => (if_neg Bool.false_ne_true).mpr (goes_still rfl rfl hO)
        · exact op1 (a := 0) rfl fun e w ρ hO E => (if_neg Bool.false_ne_true).mpr (goes_still rfl rfl hO)
        · exact op1 (a := 0) rfl fun e w ρ hO E => (if_neg Bool.false_ne_true).mpr (goes_still rfl rfl hO)
        ·
         refine op2 (a := 0) rfl fun e w ρ (hM : Mem _ w) E => ?_
         have e38 : ρ (.tmp 38) = .bool true := E.d 14 _ 38 rfl rfl rfl
         have e44 : ρ (.tmp 44) = undef := E.d 20 _ 44 rfl rfl rfl
         exact res_ok (x_pick rfl (e38) (E.c _)) (goes_still rfl rfl hM)
        · exact op2 (a := 0) rfl fun e w ρ (hM : Mem _ w) E => res_ok (x_move rfl (E.d 21 _ 45 rfl rfl rfl)) (goes_still rfl rfl hM)
        · exact op1 (a := 0) rfl fun e w ρ hO E => (if_neg Bool.false_ne_true).mpr (goes_still rfl rfl hO)
        · exact op1 (a := 0) rfl fun e w ρ hO E => (if_neg Bool.false_ne_true).mpr (goes_still rfl rfl hO)
        · exact op1 (a := 0) rfl fun e w ρ hO E => (if_neg Bool.false_ne_true).mpr (goes_still rfl rfl hO)
        · exact op1 (a := 0) rfl fun e w ρ hO E => (if_neg Bool.false_ne_true).mpr (goes_still rfl rfl hO)
        · exact op1 (a := 0) rfl fun e w ρ hO E => (if_neg Bool.false_ne_true).mpr (goes_still rfl rfl hO)
        · exact op1 (a := 0) rfl fun e w ρ hO E => (if_neg Bool.false_ne_true).mpr (goes_still rfl rfl hO)
        ·
         refine op2 (a := 0) rfl fun e w ρ (hM : Mem _ w) E => ?_
         have e46 : ρ (.tmp 46) = .bool true := E.d 22 _ 46 rfl rfl rfl
         have e52 : ρ (.tmp 52) = undef := E.d 28 _ 52 rfl rfl rfl
         exact res_ok (x_pick rfl (e46) (E.c _)) (goes_still rfl rfl hM)
       ·
        intro e a10 w10 hz10 hd hG hO hM
        have hd10 := hd.trans hd9
        have g1_10 := (hO 1 rfl).trans g1_9
        have g2_10 := (hO 2 rfl).trans g2_9
        have g3_10 := (hO 3 rfl).trans g3_9
        have g4_10 := (hO 4 rfl).trans g4_9
        have g53_10 : a10.tmps[53]? = some (.bool true) := hG 29 _ 53 rfl rfl
        have hM10 : Mem (boxC b9_0 #[.func (.func 22) #[] #[]] :: boxC b1_0 (recCells r (.slice al r.cmd.legs.length cl) (.slice at1 r.cmd.taxes.length ct)) :: R) w10 := hM
        clear hM hG hO hd
        clear hz9 hd9 hM9 g1_9 g2_9 g3_9 g4_9 g5_9
        refine then_n ?_
        refine cond_t g53_10 ?_
        refine wp_seq ?_
        refine region_seq 83 (fun zz e => (#[.slice none 0 0, .int .i64 2] : Array Value).getD zz undef) (fun k e w => Mem (List.getD [boxC b9_0 #[.func (.func 22) #[] #[]] :: boxC b1_0 (recCells r (.slice al r.cmd.legs.length cl) (.slice at1 r.cmd.taxes.length ct)) :: R] k []) w) (fun _ => (0, undef)) [] [0, 0] (fun _ _ => false) hz10 (by kernel_rfl) (by kernel_rfl) (by kernel_rfl) ?_ (show Mem _ _ from hM10) ?_ ?_
        · exact ⟨fun _ _ _ => rfl, fun _ _ _ => rfl, trivial⟩
        ·
         refine ⟨?_, ?_, trivial⟩
         · exact op2 (a := 0) rfl fun e w ρ (hM : Mem _ w) E => res_ok (x_assign rfl (E.c _)) (goes_still rfl rfl hM)
         · exact op2 (a := 0) rfl fun e w ρ (hM : Mem _ w) E => res_ok (x_assign rfl (E.c _)) (goes_still rfl rfl hM)
        ·
         intro e a11 w11 hz11 hd hG hO hM
         have hd11 := hd.trans hd10
         have g1_11 := (hO 1 rfl).trans g1_10
         have g2_11 : a11.tmps[2]? = some (.slice none 0 0) := hG 0 _ 2 rfl rfl
         have g3_11 : a11.tmps[3]? = some (.int .i64 2) := hG 1 _ 3 rfl rfl
         have g4_11 := (hO 4 rfl).trans g4_10
         have hM11 : Mem (boxC b9_0 #[.func (.func 22) #[] #[]] :: boxC b1_0 (recCells r (.slice al r.cmd.legs.length cl) (.slice at1 r.cmd.taxes.length ct)) :: R) w11 := hM
         clear hM hG hO hd
         clear hz10 hd10 hM10 g1_10 g2_10 g3_10 g4_10 g53_10
         refine then_n ?_
         refine wp_ret ?_
         refine then_r ?_
         refine ret_2 Try.results12 hd11 g2_11 g3_11 ?_
         have hno := of_decide_eq_false (hbb.symm.trans hc5)
         have hE : putE r = 2 := (if_neg hno).trans (if_pos (.inl hn))
         have hB : putB r = [] := if_neg (by rw [hE]; decide)
         exact ⟨_, by rw [hE], by rw [hB]; exact (hM11.tail.tail).noRow _ _⟩
      ·
       by_cases hg : (r.cmd.legs.length : Int) > 4
       ·
        refine region_draw 83 (fun zz e => (#[.func (.func 22) #[] #[], .pointer (some ⟨b1_0, 5, none⟩), .pointer (some ⟨b1_0, 5, none⟩), .pointer (some ⟨b1_0, 5, none⟩), .string r.cmd.name, .bool false, .bool false, .pointer (some ⟨b1_0, 5, none⟩), .pointer (some ⟨b1_0, 5, none⟩), .pointer (some ⟨b1_0, 6, none⟩), .slice al r.cmd.legs.length cl, .int .i64 (r.cmd.legs.length : Int), .bool true, .bool true, .bool true, undef, undef, undef, undef, undef, undef, .bool true, .bool true, undef, undef, undef, undef, undef, undef, .bool true] : Array Value).getD zz undef) (fun k e w => Mem (List.getD [boxC b9_0 #[.func (.func 22) #[] #[]] :: boxC b1_0 (recCells r (.slice al r.cmd.legs.length cl) (.slice at1 r.cmd.taxes.length ct)) :: R] k []) w) (fun _ => (0, undef)) [] [] [0, 0, 0, 0, 0, 0, 0, 0, 0, 0, 0, 0, 0, 0, 0, 0, 0, 0, 0, 0, 0, 0, 0, 0, 0, 0, 0, 0, 0, 0] [0, 0, 0, 0, 0, 0, 0, 0, 0, 0, 0, 0, 0, 0, 0, 0, 0, 0, 0, 0, 0, 0, 0, 0, 0, 0, 0, 0, 0, 0] (fun _ _ => false) hz9 (by kernel_rfl) (by kernel_rfl) (by kernel_rfl) (by kernel_rfl) (by kernel_rfl) ?_ (show Mem _ _ from hM9.drew) ?_ ?_
        · exact ⟨fun _ _ _ => rfl, fun _ _ _ => rfl, fun _ _ _ => rfl, fun _ _ _ => rfl, fun _ _ _ => rfl, fun _ _ _ => rfl, fun _ _ _ => rfl, fun _ _ _ => rfl, fun _ _ _ => rfl, fun _ _ _ => rfl, fun _ _ _ => rfl, fun _ _ _ => rfl, fun _ _ _ => rfl, fun _ _ _ => rfl, fun _ _ _ => rfl, fun _ _ _ => rfl, fun _ _ _ => rfl, fun _ _ _ => rfl, fun _ _ _ => rfl, fun _ _ _ => rfl, fun _ _ _ => rfl, fun _ _ _ => rfl, fun _ _ _ => rfl, fun _ _ _ => rfl, fun _ _ _ => rfl, fun _ _ _ => rfl, fun _ _ _ => rfl, fun _ _ _ => rfl, fun _ _ _ => rfl, fun _ _ _ => rfl, trivial⟩
        ·
         refine ⟨?_, ?_, ?_, ?_, ?_, ?_, ?_, ?_, ?_, ?_, ?_, ?_, ?_, ?_, ?_, ?_, ?_, ?_, ?_, ?_, ?_, ?_, ?_, ?_, ?_, ?_, ?_, ?_, ?_, ?_, trivial⟩
         · exact op2 (a := 0) rfl fun e w ρ (hM : Mem _ w) E => res_ok (x_load rfl (E.o 5 _ rfl g5_9) (by kernel_rfl) ((hM.box 0 rfl).cell 0 rfl)) (goes_still rfl rfl hM)
         · exact op2 (a := 0) rfl fun e w ρ (hM : Mem _ w) E => res_ok (x_move rfl (E.o 4 _ rfl g4_9)) (goes_still rfl rfl hM)
         · exact op2 (a := 0) rfl fun e w ρ (hM : Mem _ w) E => res_ok (x_nil rfl (E.d 1 _ 25 rfl rfl rfl)) (goes_still rfl rfl hM)
         · exact op2 (a := 0) rfl fun e w ρ (hM : Mem _ w) E => res_ok (x_fieldAddr (off := 0) rfl (E.d 2 _ 26 rfl rfl rfl) (by kernel_rfl) rfl) (goes_still rfl rfl hM)
         · exact op2 (a := 0) rfl fun e w ρ (hM : Mem _ w) E => res_ok (x_load rfl (E.d 3 _ 27 rfl rfl rfl) (by kernel_rfl) ((hM.box 1 rfl).cell 5 rfl)) (goes_still rfl rfl hM)
         ·
          refine op2 (a := 0) rfl fun e w ρ (hM : Mem _ w) E => ?_
          have e24 : ρ (.tmp 24) = .func (.func 22) #[] #[] := E.d 0 _ 24 rfl rfl rfl
          have e28 : ρ (.tmp 28) = .string r.cmd.name := E.d 4 _ 28 rfl rfl rfl
          refine res_in (x_call (args := #[.string r.cmd.name]) rfl rfl (e24) (by simp [e28]) (by kernel_rfl)) ?_
          refine (put1_at r.cmd.name _ _ hM).mono ?_
          rintro e' w' ⟨he, hm⟩
          rw [decide_eq_false hn] at he
          subst he
          exact ⟨_, rfl, goes_still rfl rfl (hm)⟩
         · exact op2 (a := 0) rfl fun e w ρ (hM : Mem _ w) E => res_ok (x_move rfl (E.d 5 _ 29 rfl rfl rfl)) (goes_still rfl rfl hM)
         · exact op1 (a := 0) rfl fun e w ρ (hM : Mem _ w) E => (if_pos rfl).mpr (res_ok (x_move rfl (E.o 4 _ rfl g4_9)) (goes_still rfl rfl hM))
         · exact op1 (a := 0) rfl fun e w ρ (hM : Mem _ w) E => (if_pos rfl).mpr (res_ok (x_nil rfl (E.d 7 _ 31 rfl rfl rfl)) (goes_still rfl rfl hM))
         · exact op1 (a := 0) rfl fun e w ρ (hM : Mem _ w) E => (if_pos rfl).mpr (res_ok (x_fieldAddr (off := 1) rfl (E.d 8 _ 32 rfl rfl rfl) (by kernel_rfl) rfl) (goes_still rfl rfl hM))
         · exact op1 (a := 0) rfl fun e w ρ (hM : Mem _ w) E => (if_pos rfl).mpr (res_ok (x_load rfl (E.d 9 _ 33 rfl rfl rfl) (by kernel_rfl) ((hM.box 1 rfl).cell 6 rfl)) (goes_still rfl rfl hM))
         ·
          refine op1 (a := 0) rfl fun e w ρ (hM : Mem _ w) E => ?_
          have e34 : ρ (.tmp 34) = .slice al r.cmd.legs.length cl := E.d 10 _ 34 rfl rfl rfl
          refine (if_pos rfl).mpr ?_
          exact res_ok (x_len (n := 3) rfl rfl rfl rfl (e34) (by kernel_rfl)) (goes_still rfl rfl hM)
         · exact op1 (a := 0) rfl fun e w ρ (hM : Mem _ w) E => (if_pos rfl).mpr (res_ok (x_gtr rfl (E.d 11 _ 35 rfl rfl rfl) (E.c _) (decide_eq_true hg)) (goes_still rfl rfl hM))
         ·
          refine op2 (a := 0) rfl fun e w ρ (hM : Mem _ w) E => ?_
          have e30 : ρ (.tmp 30) = .bool false := E.d 6 _ 30 rfl rfl rfl
          have e36 : ρ (.tmp 36) = .bool true := E.d 12 _ 36 rfl rfl rfl
          exact res_ok (x_pick rfl (e30) (e36)) (goes_still rfl rfl hM)
         · exact op2 (a := 0) rfl fun e w ρ (hM : Mem _ w) E => res_ok (x_move rfl (E.d 13 _ 37 rfl rfl rfl)) (goes_still rfl rfl hM)
         · exact op1 (a := 0) rfl fun e w ρ hO E => (if_neg Bool.false_ne_true).mpr (goes_still rfl rfl hO)
         · exact op1 (a := 0) rfl fun e w ρ hO E => (if_neg Bool.false_ne_true).mpr (goes_still rfl rfl hO)
         · exact op1 (a := 0) rfl fun e w ρ hO E => (if_neg Bool.false_ne_true).mpr (goes_still rfl rfl hO)
         · exact op1 (a := 0) rfl fun e w ρ hO E => (if_neg Bool.false_ne_true).mpr (goes_still rfl rfl hO)
         · exact op1 (a := 0) rfl fun e w ρ hO E => (if_neg Bool.false_ne_true).mpr (goes_still rfl rfl hO)
         · exact op1 (a := 0) rfl fun e w ρ hO E => (if_neg Bool.false_ne_true).mpr (goes_still rfl rfl hO)
         ·
          refine op2 (a := 0) rfl fun e w ρ (hM : Mem _ w) E => ?_
          have e38 : ρ (.tmp 38) = .bool true := E.d 14 _ 38 rfl rfl rfl
          have e44 : ρ (.tmp 44) = undef := E.d 20 _ 44 rfl rfl rfl
          exact res_ok (x_pick rfl (e38) (E.c _)) (goes_still rfl rfl hM)
         · exact op2 (a := 0) rfl fun e w ρ (hM : Mem _ w) E => res_ok (x_move rfl (E.d 21 _ 45 rfl rfl rfl)) (goes_still rfl rfl hM)
         · exact op1 (a := 0) rfl fun e w ρ hO E => (if_neg Bool.false_ne_true).mpr (goes_still rfl rfl hO)
         · exact op1 (a := 0) rfl fun e w ρ hO E => (if_neg Bool.false_ne_true).mpr (goes_still rfl rfl hO)
         · exact op1 (a := 0) rfl fun e w ρ hO E => (if_neg Bool.false_ne_true).mpr (goes_still rfl rfl hO)
         · exact op1 (a := 0) rfl fun e w ρ hO E => (if_neg Bool.false_ne_true).mpr (goes_still rfl rfl hO)
         · exact op1 (a := 0) rfl fun e w ρ hO E => (if_neg Bool.false_ne_true).mpr (goes_still rfl rfl hO)
         · exact op1 (a := 0) rfl fun e w ρ hO E => (if_neg Bool.false_ne_true).mpr (goes_still rfl rfl hO)
         ·
          refine op2 (a := 0) rfl fun e w ρ (hM : Mem _ w) E => ?_
          have e46 : ρ (.tmp 46) = .bool true := E.d 22 _ 46 rfl rfl rfl
          have e52 : ρ (.tmp 52) = undef := E.d 28 _ 52 rfl rfl rfl
          exact res_ok (x_pick rfl (e46) (E.c _)) (goes_still rfl rfl hM)
        ·
         intro e a12 w12 hz12 hd hG hO hM
         have hd12 := hd.trans hd9
         have g1_12 := (hO 1 rfl).trans g1_9
         have g2_12 := (hO 2 rfl).trans g2_9
         have g3_12 := (hO 3 rfl).trans g3_9
         have g4_12 := (hO 4 rfl).trans g4_9
         have g53_12 : a12.tmps[53]? = some (.bool true) := hG 29 _ 53 rfl rfl
         have hM12 : Mem (boxC b9_0 #[.func (.func 22) #[] #[]] :: boxC b1_0 (recCells r (.slice al r.cmd.legs.length cl) (.slice at1 r.cmd.taxes.length ct)) :: R) w12 := hM
         clear hM hG hO hd
         clear hz9 hd9 hM9 g1_9 g2_9 g3_9 g4_9 g5_9
         refine then_n ?_
         refine cond_t g53_12 ?_
         refine wp_seq ?_
         refine region_seq 83 (fun zz e => (#[.slice none 0 0, .int .i64 2] : Array Value).getD zz undef) (fun k e w => Mem (List.getD [boxC b9_0 #[.func (.func 22) #[] #[]] :: boxC b1_0 (recCells r (.slice al r.cmd.legs.length cl) (.slice at1 r.cmd.taxes.length ct)) :: R] k []) w) (fun _ => (0, undef)) [] [0, 0] (fun _ _ => false) hz12 (by kernel_rfl) (by kernel_rfl) (by kernel_rfl) ?_ (show Mem _ _ from hM12) ?_ ?_
         · exact ⟨fun _ _ _ => rfl, fun _ _ _ => rfl, trivial⟩
         ·
          refine ⟨?_, ?_, trivial⟩
          · exact op2 (a := 0) rfl fun e w ρ (hM : Mem _ w) E => res_ok (x_assign rfl (E.c _)) (goes_still rfl rfl hM)
          · exact op2 (a := 0) rfl fun e w ρ (hM : Mem _ w) E => res_ok (x_assign rfl (E.c _)) (goes_still rfl rfl hM)
         ·
          intro e a13 w13 hz13 hd hG hO hM
          have hd13 := hd.trans hd12
          have g1_13 := (hO 1 rfl).trans g1_12
          have g2_13 : a13.tmps[2]? = some (.slice none 0 0) := hG 0 _ 2 rfl rfl
          have g3_13 : a13.tmps[3]? = some (.int .i64 2) := hG 1 _ 3 rfl rfl
          have g4_13 := (hO 4 rfl).trans g4_12
          have hM13 : Mem (boxC b9_0 #[.func (.func 22) #[] #[]] :: boxC b1_0 (recCells r (.slice al r.cmd.legs.length cl) (.slice at1 r.cmd.taxes.length ct)) :: R) w13 := hM
          clear hM hG hO hd
          clear hz12 hd12 hM12 g1_12 g2_12 g3_12 g4_12 g53_12
          refine then_n ?_
          refine wp_ret ?_
          refine then_r ?_
          refine ret_2 Try.results12 hd13 g2_13 g3_13 ?_
          have hno := of_decide_eq_false (hbb.symm.trans hc5)
          have hE : putE r = 2 := (if_neg hno).trans (if_pos (.inr (.inl hg)))
          have hB : putB r = [] := if_neg (by rw [hE]; decide)
          exact ⟨_, by rw [hE], by rw [hB]; exact (hM13.tail.tail).noRow _ _⟩
       ·
        by_cases hx : (r.cmd.taxes.length : Int) > 4
        ·
         refine region_draw 83 (fun zz e => (#[.func (.func 22) #[] #[], .pointer (some ⟨b1_0, 5, none⟩), .pointer (some ⟨b1_0, 5, none⟩), .pointer (some ⟨b1_0, 5, none⟩), .string r.cmd.name, .bool false, .bool false, .pointer (some ⟨b1_0, 5, none⟩), .pointer (some ⟨b1_0, 5, none⟩), .pointer (some ⟨b1_0, 6, none⟩), .slice al r.cmd.legs.length cl, .int .i64 (r.cmd.legs.length : Int), .bool false, .bool false, .bool false, .pointer (some ⟨b1_0, 5, none⟩), .pointer (some ⟨b1_0, 5, none⟩), .pointer (some ⟨b1_0, 8, none⟩), .slice at1 r.cmd.taxes.length ct, .int .i64 (r.cmd.taxes.length : Int), .bool true, .bool true, .bool true, undef, undef, undef, undef, undef, undef, .bool true] : Array Value).getD zz undef) (fun k e w => Mem (List.getD [boxC b9_0 #[.func (.func 22) #[] #[]] :: boxC b1_0 (recCells r (.slice al r.cmd.legs.length cl) (.slice at1 r.cmd.taxes.length ct)) :: R] k []) w) (fun _ => (0, undef)) [] [] [0, 0, 0, 0, 0, 0, 0, 0, 0, 0, 0, 0, 0, 0, 0, 0, 0, 0, 0, 0, 0, 0, 0, 0, 0, 0, 0, 0, 0, 0] [0, 0, 0, 0, 0, 0, 0, 0, 0, 0, 0, 0, 0, 0, 0, 0, 0, 0, 0, 0, 0, 0, 0, 0, 0, 0, 0, 0, 0, 0] (fun _ _ => false) hz9 (by kernel_rfl) (by kernel_rfl) (by kernel_rfl) (by kernel_rfl) (by kernel_rfl) ?_ (show Mem _ _ from hM9.drew) ?_ ?_
         · exact ⟨fun _ _ _ => rfl, fun _ _ _ => rfl, fun _ _ _ => rfl, fun _ _ _ => rfl, fun _ _ _ => rfl, fun _ _ _ => rfl, fun _ _ _ => rfl, fun _ _ _ => rfl, fun _ _ _ => rfl, fun _ _ _ => rfl, fun _ _ _ => rfl, fun _ _ _ => rfl, fun _ _ _ => rfl, fun _ _ _ => rfl, fun _ _ _ => rfl, fun _ _ _ => rfl, fun _ _ _ => rfl, fun _ _ _ => rfl, fun _ _ _ => rfl, fun _ _ _ => rfl, fun _ _ _ => rfl, fun _ _ _ => rfl, fun _ _ _ => rfl, fun _ _ _ => rfl, fun _ _ _ => rfl, fun _ _ _ => rfl, fun _ _ _ => rfl, fun _ _ _ => rfl, fun _ _ _ => rfl, fun _ _ _ => rfl, trivial⟩
         ·
          refine ⟨?_, ?_, ?_, ?_, ?_, ?_, ?_, ?_, ?_, ?_, ?_, ?_, ?_, ?_, ?_, ?_, ?_, ?_, ?_, ?_, ?_, ?_, ?_, ?_, ?_, ?_, ?_, ?_, ?_, ?_, trivial⟩
          · exact op2 (a := 0) rfl fun e w ρ (hM : Mem _ w) E => res_ok (x_load rfl (E.o 5 _ rfl g5_9) (by kernel_rfl) ((hM.box 0 rfl).cell 0 rfl)) (goes_still rfl rfl hM)
          · exact op2 (a := 0) rfl fun e w ρ (hM : Mem _ w) E => res_ok (x_move rfl (E.o 4 _ rfl g4_9)) (goes_still rfl rfl hM)
          · exact op2 (a := 0) rfl fun e w ρ (hM : Mem _ w) E => res_ok (x_nil rfl (E.d 1 _ 25 rfl rfl rfl)) (goes_still rfl rfl hM)
          · exact op2 (a := 0) rfl fun e w ρ (hM : Mem _ w) E => res_ok (x_fieldAddr (off := 0) rfl (E.d 2 _ 26 rfl rfl rfl) (by kernel_rfl) rfl) (goes_still rfl rfl hM)
          · exact op2 (a := 0) rfl fun e w ρ (hM : Mem _ w) E => res_ok (x_load rfl (E.d 3 _ 27 rfl rfl rfl) (by kernel_rfl) ((hM.box 1 rfl).cell 5 rfl)) (goes_still rfl rfl hM)
          ·
           refine op2 (a := 0) rfl fun e w ρ (hM : Mem _ w) E => ?_
           have e24 : ρ (.tmp 24) = .func (.func 22) #[] #[] := E.d 0 _ 24 rfl rfl rfl
           have e28 : ρ (.tmp 28) = .string r.cmd.name := E.d 4 _ 28 rfl rfl rfl
           refine res_in (x_call (args := #[.string r.cmd.name]) rfl rfl (e24) (by simp [e28]) (by kernel_rfl)) ?_
           refine (put1_at r.cmd.name _ _ hM).mono ?_
           rintro e' w' ⟨he, hm⟩
           rw [decide_eq_false hn] at he
           subst he
           exact ⟨_, rfl, goes_still rfl rfl (hm)⟩
          · exact op2 (a := 0) rfl fun e w ρ (hM : Mem _ w) E => res_ok (x_move rfl (E.d 5 _ 29 rfl rfl rfl)) (goes_still rfl rfl hM)
          · exact op1 (a := 0) rfl fun e w ρ (hM : Mem _ w) E => (if_pos rfl).mpr (res_ok (x_move rfl (E.o 4 _ rfl g4_9)) (goes_still rfl rfl hM))
          · exact op1 (a := 0) rfl fun e w ρ (hM : Mem _ w) E => (if_pos rfl).mpr (res_ok (x_nil rfl (E.d 7 _ 31 rfl rfl rfl)) (goes_still rfl rfl hM))
          · exact op1 (a := 0) rfl fun e w ρ (hM : Mem _ w) E => (if_pos rfl).mpr (res_ok (x_fieldAddr (off := 1) rfl (E.d 8 _ 32 rfl rfl rfl) (by kernel_rfl) rfl) (goes_still rfl rfl hM))
          · exact op1 (a := 0) rfl fun e w ρ (hM : Mem _ w) E => (if_pos rfl).mpr (res_ok (x_load rfl (E.d 9 _ 33 rfl rfl rfl) (by kernel_rfl) ((hM.box 1 rfl).cell 6 rfl)) (goes_still rfl rfl hM))
          ·
           refine op1 (a := 0) rfl fun e w ρ (hM : Mem _ w) E => ?_
           have e34 : ρ (.tmp 34) = .slice al r.cmd.legs.length cl := E.d 10 _ 34 rfl rfl rfl
           refine (if_pos rfl).mpr ?_
           exact res_ok (x_len (n := 3) rfl rfl rfl rfl (e34) (by kernel_rfl)) (goes_still rfl rfl hM)
          · exact op1 (a := 0) rfl fun e w ρ (hM : Mem _ w) E => (if_pos rfl).mpr (res_ok (x_gtr rfl (E.d 11 _ 35 rfl rfl rfl) (E.c _) (decide_eq_false hg)) (goes_still rfl rfl hM))
          ·
           refine op2 (a := 0) rfl fun e w ρ (hM : Mem _ w) E => ?_
           have e30 : ρ (.tmp 30) = .bool false := E.d 6 _ 30 rfl rfl rfl
           have e36 : ρ (.tmp 36) = .bool false := E.d 12 _ 36 rfl rfl rfl
           exact res_ok (x_pick rfl (e30) (e36)) (goes_still rfl rfl hM)
          · exact op2 (a := 0) rfl fun e w ρ (hM : Mem _ w) E => res_ok (x_move rfl (E.d 13 _ 37 rfl rfl rfl)) (goes_still rfl rfl hM)
          · exact op1 (a := 0) rfl fun e w ρ (hM : Mem _ w) E => (if_pos rfl).mpr (res_ok (x_move rfl (E.o 4 _ rfl g4_9)) (goes_still rfl rfl hM))
          · exact op1 (a := 0) rfl fun e w ρ (hM : Mem _ w) E => (if_pos rfl).mpr (res_ok (x_nil rfl (E.d 15 _ 39 rfl rfl rfl)) (goes_still rfl rfl hM))
          · exact op1 (a := 0) rfl fun e w ρ (hM : Mem _ w) E => (if_pos rfl).mpr (res_ok (x_fieldAddr (off := 3) rfl (E.d 16 _ 40 rfl rfl rfl) (by kernel_rfl) rfl) (goes_still rfl rfl hM))
          · exact op1 (a := 0) rfl fun e w ρ (hM : Mem _ w) E => (if_pos rfl).mpr (res_ok (x_load rfl (E.d 17 _ 41 rfl rfl rfl) (by kernel_rfl) ((hM.box 1 rfl).cell 8 rfl)) (goes_still rfl rfl hM))
          ·
           refine op1 (a := 0) rfl fun e w ρ (hM : Mem _ w) E => ?_
           have e42 : ρ (.tmp 42) = .slice at1 r.cmd.taxes.length ct := E.d 18 _ 42 rfl rfl rfl
           refine (if_pos rfl).mpr ?_
           exact res_ok (x_len (n := 2) rfl rfl rfl rfl (e42) (by kernel_rfl)) (goes_still rfl rfl hM)
          · exact op1 (a := 0) rfl fun e w ρ (hM : Mem _ w) E => (if_pos rfl).mpr (res_ok (x_gtr rfl (E.d 19 _ 43 rfl rfl rfl) (E.c _) (decide_eq_true hx)) (goes_still rfl rfl hM))
          ·
           refine op2 (a := 0) rfl fun e w ρ (hM : Mem _ w) E => ?_
           have e38 : ρ (.tmp 38) = .bool false := E.d 14 _ 38 rfl rfl rfl
           have e44 : ρ (.tmp 44) = .bool true := E.d 20 _ 44 rfl rfl rfl
           exact res_ok (x_pick rfl (e38) (e44)) (goes_still rfl rfl hM)
          · exact op2 (a := 0) rfl fun e w ρ (hM : Mem _ w) E => res_ok (x_move rfl (E.d 21 _ 45 rfl rfl rfl)) (goes_still rfl rfl hM)
          · exact op1 (a := 0) rfl fun e w ρ hO E => (if_neg Bool.false_ne_true).mpr (goes_still rfl rfl hO)
          · exact op1 (a := 0) rfl fun e w ρ hO E => (if_neg Bool.false_ne_true).mpr (goes_still rfl rfl hO)
          · exact op1 (a := 0) rfl fun e w ρ hO E => (if_neg Bool.false_ne_true).mpr (goes_still rfl rfl hO)
          · exact op1 (a := 0) rfl fun e w ρ hO E => (if_neg Bool.false_ne_true).mpr (goes_still rfl rfl hO)
          · exact op1 (a := 0) rfl fun e w ρ hO E => (if_neg Bool.false_ne_true).mpr (goes_still rfl rfl hO)
          · exact op1 (a := 0) rfl fun e w ρ hO E => (if_neg Bool.false_ne_true).mpr (goes_still rfl rfl hO)
          ·
           refine op2 (a := 0) rfl fun e w ρ (hM : Mem _ w) E => ?_
           have e46 : ρ (.tmp 46) = .bool true := E.d 22 _ 46 rfl rfl rfl
           have e52 : ρ (.tmp 52) = undef := E.d 28 _ 52 rfl rfl rfl
           exact res_ok (x_pick rfl (e46) (E.c _)) (goes_still rfl rfl hM)
         ·
          intro e a14 w14 hz14 hd hG hO hM
          have hd14 := hd.trans hd9
          have g1_14 := (hO 1 rfl).trans g1_9
          have g2_14 := (hO 2 rfl).trans g2_9
          have g3_14 := (hO 3 rfl).trans g3_9
          have g4_14 := (hO 4 rfl).trans g4_9
          have g53_14 : a14.tmps[53]? = some (.bool true) := hG 29 _ 53 rfl rfl
          have hM14 : Mem (boxC b9_0 #[.func (.func 22) #[] #[]] :: boxC b1_0 (recCells r (.slice al r.cmd.legs.length cl) (.slice at1 r.cmd.taxes.length ct)) :: R) w14 := hM
          clear hM hG hO hd
          clear hz9 hd9 hM9 g1_9 g2_9 g3_9 g4_9 g5_9
          refine then_n ?_
          refine cond_t g53_14 ?_
          refine wp_seq ?_
          refine region_seq 83 (fun zz e => (#[.slice none 0 0, .int .i64 2] : Array Value).getD zz undef) (fun k e w => Mem (List.getD [boxC b9_0 #[.func (.func 22) #[] #[]] :: boxC b1_0 (recCells r (.slice al r.cmd.legs.length cl) (.slice at1 r.cmd.taxes.length ct)) :: R] k []) w) (fun _ => (0, undef)) [] [0, 0] (fun _ _ => false) hz14 (by kernel_rfl) (by kernel_rfl) (by kernel_rfl) ?_ (show Mem _ _ from hM14) ?_ ?_
          · exact ⟨fun _ _ _ => rfl, fun _ _ _ => rfl, trivial⟩
          ·
           refine ⟨?_, ?_, trivial⟩
           · exact op2 (a := 0) rfl fun e w ρ (hM : Mem _ w) E => res_ok (x_assign rfl (E.c _)) (goes_still rfl rfl hM)
           · exact op2 (a := 0) rfl fun e w ρ (hM : Mem _ w) E => res_ok (x_assign rfl (E.c _)) (goes_still rfl rfl hM)
          ·
           intro e a15 w15 hz15 hd hG hO hM
           have hd15 := hd.trans hd14
           have g1_15 := (hO 1 rfl).trans g1_14
           have g2_15 : a15.tmps[2]? = some (.slice none 0 0) := hG 0 _ 2 rfl rfl
           have g3_15 : a15.tmps[3]? = some (.int .i64 2) := hG 1 _ 3 rfl rfl
           have g4_15 := (hO 4 rfl).trans g4_14
           have hM15 : Mem (boxC b9_0 #[.func (.func 22) #[] #[]] :: boxC b1_0 (recCells r (.slice al r.cmd.legs.length cl) (.slice at1 r.cmd.taxes.length ct)) :: R) w15 := hM
           clear hM hG hO hd
           clear hz14 hd14 hM14 g1_14 g2_14 g3_14 g4_14 g53_14
           refine then_n ?_
           refine wp_ret ?_
           refine then_r ?_
           refine ret_2 Try.results12 hd15 g2_15 g3_15 ?_
           have hno := of_decide_eq_false (hbb.symm.trans hc5)
           have hE : putE r = 2 := (if_neg hno).trans (if_pos (.inr (.inr (.inl hx))))
           have hB : putB r = [] := if_neg (by rw [hE]; decide)
           exact ⟨_, by rw [hE], by rw [hB]; exact (hM15.tail.tail).noRow _ _⟩
        ·
         refine region_draw 83 (fun zz e => (#[.func (.func 22) #[] #[], .pointer (some ⟨b1_0, 5, none⟩), .pointer (some ⟨b1_0, 5, none⟩), .pointer (some ⟨b1_0, 5, none⟩), .string r.cmd.name, .bool false, .bool false, .pointer (some ⟨b1_0, 5, none⟩), .pointer (some ⟨b1_0, 5, none⟩), .pointer (some ⟨b1_0, 6, none⟩), .slice al r.cmd.legs.length cl, .int .i64 (r.cmd.legs.length : Int), .bool false, .bool false, .bool false, .pointer (some ⟨b1_0, 5, none⟩), .pointer (some ⟨b1_0, 5, none⟩), .pointer (some ⟨b1_0, 8, none⟩), .slice at1 r.cmd.taxes.length ct, .int .i64 (r.cmd.taxes.length : Int), .bool false, .bool false, .bool false, .pointer (some ⟨b1_0, 5, none⟩), .pointer (some ⟨b1_0, 5, none⟩), .pointer (some ⟨b1_0, 8, none⟩), .slice at1 r.cmd.taxes.length ct, .func (.func 24) #[] #[.pointer (some ⟨b9_0, 0, none⟩)], .bool (r.cmd.taxes.any longT), .bool (r.cmd.taxes.any longT)] : Array Value).getD zz undef) (fun k e w => Mem (List.getD [boxC b9_0 #[.func (.func 22) #[] #[]] :: boxC b1_0 (recCells r (.slice al r.cmd.legs.length cl) (.slice at1 r.cmd.taxes.length ct)) :: R] k []) w) (fun _ => (0, undef)) [] [] [0, 0, 0, 0, 0, 0, 0, 0, 0, 0, 0, 0, 0, 0, 0, 0, 0, 0, 0, 0, 0, 0, 0, 0, 0, 0, 0, 0, 0, 0] [0, 0, 0, 0, 0, 0, 0, 0, 0, 0, 0, 0, 0, 0, 0, 0, 0, 0, 0, 0, 0, 0, 0, 0, 0, 0, 0, 0, 0, 0] (fun _ _ => false) hz9 (by kernel_rfl) (by kernel_rfl) (by kernel_rfl) (by kernel_rfl) (by kernel_rfl) ?_ (show Mem _ _ from hM9.drew) ?_ ?_
         · exact ⟨fun _ _ _ => rfl, fun _ _ _ => rfl, fun _ _ _ => rfl, fun _ _ _ => rfl, fun _ _ _ => rfl, fun _ _ _ => rfl, fun _ _ _ => rfl, fun _ _ _ => rfl, fun _ _ _ => rfl, fun _ _ _ => rfl, fun _ _ _ => rfl, fun _ _ _ => rfl, fun _ _ _ => rfl, fun _ _ _ => rfl, fun _ _ _ => rfl, fun _ _ _ => rfl, fun _ _ _ => rfl, fun _ _ _ => rfl, fun _ _ _ => rfl, fun _ _ _ => rfl, fun _ _ _ => rfl, fun _ _ _ => rfl, fun _ _ _ => rfl, fun _ _ _ => rfl, fun _ _ _ => rfl, fun _ _ _ => rfl, fun _ _ _ => rfl, fun _ _ _ => rfl, fun _ _ _ => rfl, fun _ _ _ => rfl, trivial⟩
         ·
          refine ⟨?_, ?_, ?_, ?_, ?_, ?_, ?_, ?_, ?_, ?_, ?_, ?_, ?_, ?_, ?_, ?_, ?_, ?_, ?_, ?_, ?_, ?_, ?_, ?_, ?_, ?_, ?_, ?_, ?_, ?_, trivial⟩
          · exact op2 (a := 0) rfl fun e w ρ (hM : Mem _ w) E => res_ok (x_load rfl (E.o 5 _ rfl g5_9) (by kernel_rfl) ((hM.box 0 rfl).cell 0 rfl)) (goes_still rfl rfl hM)
          · exact op2 (a := 0) rfl fun e w ρ (hM : Mem _ w) E => res_ok (x_move rfl (E.o 4 _ rfl g4_9)) (goes_still rfl rfl hM)
          · exact op2 (a := 0) rfl fun e w ρ (hM : Mem _ w) E => res_ok (x_nil rfl (E.d 1 _ 25 rfl rfl rfl)) (goes_still rfl rfl hM)
          · exact op2 (a := 0) rfl fun e w ρ (hM : Mem _ w) E => res_ok (x_fieldAddr (off := 0) rfl (E.d 2 _ 26 rfl rfl rfl) (by kernel_rfl) rfl) (goes_still rfl rfl hM)
          · exact op2 (a := 0) rfl fun e w ρ (hM : Mem _ w) E => res_ok (x_load rfl (E.d 3 _ 27 rfl rfl rfl) (by kernel_rfl) ((hM.box 1 rfl).cell 5 rfl)) (goes_still rfl rfl hM)
          ·
           refine op2 (a := 0) rfl fun e w ρ (hM : Mem _ w) E => ?_
           have e24 : ρ (.tmp 24) = .func (.func 22) #[] #[] := E.d 0 _ 24 rfl rfl rfl
           have e28 : ρ (.tmp 28) = .string r.cmd.name := E.d 4 _ 28 rfl rfl rfl
           refine res_in (x_call (args := #[.string r.cmd.name]) rfl rfl (e24) (by simp [e28]) (by kernel_rfl)) ?_
           refine (put1_at r.cmd.name _ _ hM).mono ?_
           rintro e' w' ⟨he, hm⟩
           rw [decide_eq_false hn] at he
           subst he
           exact ⟨_, rfl, goes_still rfl rfl (hm)⟩
          · exact op2 (a := 0) rfl fun e w ρ (hM : Mem _ w) E => res_ok (x_move rfl (E.d 5 _ 29 rfl rfl rfl)) (goes_still rfl rfl hM)
          · exact op1 (a := 0) rfl fun e w ρ (hM : Mem _ w) E => (if_pos rfl).mpr (res_ok (x_move rfl (E.o 4 _ rfl g4_9)) (goes_still rfl rfl hM))
          · exact op1 (a := 0) rfl fun e w ρ (hM : Mem _ w) E => (if_pos rfl).mpr (res_ok (x_nil rfl (E.d 7 _ 31 rfl rfl rfl)) (goes_still rfl rfl hM))
          · exact op1 (a := 0) rfl fun e w ρ (hM : Mem _ w) E => (if_pos rfl).mpr (res_ok (x_fieldAddr (off := 1) rfl (E.d 8 _ 32 rfl rfl rfl) (by kernel_rfl) rfl) (goes_still rfl rfl hM))
          · exact op1 (a := 0) rfl fun e w ρ (hM : Mem _ w) E => (if_pos rfl).mpr (res_ok (x_load rfl (E.d 9 _ 33 rfl rfl rfl) (by kernel_rfl) ((hM.box 1 rfl).cell 6 rfl)) (goes_still rfl rfl hM))
          ·
           refine op1 (a := 0) rfl fun e w ρ (hM : Mem _ w) E => ?_
           have e34 : ρ (.tmp 34) = .slice al r.cmd.legs.length cl := E.d 10 _ 34 rfl rfl rfl
           refine (if_pos rfl).mpr ?_
           exact res_ok (x_len (n := 3) rfl rfl rfl rfl (e34) (by kernel_rfl)) (goes_still rfl rfl hM)
          · exact op1 (a := 0) rfl fun e w ρ (hM : Mem _ w) E => (if_pos rfl).mpr (res_ok (x_gtr rfl (E.d 11 _ 35 rfl rfl rfl) (E.c _) (decide_eq_false hg)) (goes_still rfl rfl hM))
          ·
           refine op2 (a := 0) rfl fun e w ρ (hM : Mem _ w) E => ?_
           have e30 : ρ (.tmp 30) = .bool false := E.d 6 _ 30 rfl rfl rfl
           have e36 : ρ (.tmp 36) = .bool false := E.d 12 _ 36 rfl rfl rfl
           exact res_ok (x_pick rfl (e30) (e36)) (goes_still rfl rfl hM)
          · exact op2 (a := 0) rfl fun e w ρ (hM : Mem _ w) E => res_ok (x_move rfl (E.d 13 _ 37 rfl rfl rfl)) (goes_still rfl rfl hM)
          · exact op1 (a := 0) rfl fun e w ρ (hM : Mem _ w) E => (if_pos rfl).mpr (res_ok (x_move rfl (E.o 4 _ rfl g4_9)) (goes_still rfl rfl hM))
          · exact op1 (a := 0) rfl fun e w ρ (hM : Mem _ w) E => (if_pos rfl).mpr (res_ok (x_nil rfl (E.d 15 _ 39 rfl rfl rfl)) (goes_still rfl rfl hM))
          · exact op1 (a := 0) rfl fun e w ρ (hM : Mem _ w) E => (if_pos rfl).mpr (res_ok (x_fieldAddr (off := 3) rfl (E.d 16 _ 40 rfl rfl rfl) (by kernel_rfl) rfl) (goes_still rfl rfl hM))
          · exact op1 (a := 0) rfl fun e w ρ (hM : Mem _ w) E => (if_pos rfl).mpr (res_ok (x_load rfl (E.d 17 _ 41 rfl rfl rfl) (by kernel_rfl) ((hM.box 1 rfl).cell 8 rfl)) (goes_still rfl rfl hM))
          ·
           refine op1 (a := 0) rfl fun e w ρ (hM : Mem _ w) E => ?_
           have e42 : ρ (.tmp 42) = .slice at1 r.cmd.taxes.length ct := E.d 18 _ 42 rfl rfl rfl
           refine (if_pos rfl).mpr ?_
           exact res_ok (x_len (n := 2) rfl rfl rfl rfl (e42) (by kernel_rfl)) (goes_still rfl rfl hM)
          · exact op1 (a := 0) rfl fun e w ρ (hM : Mem _ w) E => (if_pos rfl).mpr (res_ok (x_gtr rfl (E.d 19 _ 43 rfl rfl rfl) (E.c _) (decide_eq_false hx)) (goes_still rfl rfl hM))
          ·
           refine op2 (a := 0) rfl fun e w ρ (hM : Mem _ w) E => ?_
           have e38 : ρ (.tmp 38) = .bool false := E.d 14 _ 38 rfl rfl rfl
           have e44 : ρ (.tmp 44) = .bool false := E.d 20 _ 44 rfl rfl rfl
           exact res_ok (x_pick rfl (e38) (e44)) (goes_still rfl rfl hM)
          · exact op2 (a := 0) rfl fun e w ρ (hM : Mem _ w) E => res_ok (x_move rfl (E.d 21 _ 45 rfl rfl rfl)) (goes_still rfl rfl hM)
          · exact op1 (a := 0) rfl fun e w ρ (hM : Mem _ w) E => (if_pos rfl).mpr (res_ok (x_move rfl (E.o 4 _ rfl g4_9)) (goes_still rfl rfl hM))
          · exact op1 (a := 0) rfl fun e w ρ (hM : Mem _ w) E => (if_pos rfl).mpr (res_ok (x_nil rfl (E.d 23 _ 47 rfl rfl rfl)) (goes_still rfl rfl hM))
          · exact op1 (a := 0) rfl fun e w ρ (hM : Mem _ w) E => (if_pos rfl).mpr (res_ok (x_fieldAddr (off := 3) rfl (E.d 24 _ 48 rfl rfl rfl) (by kernel_rfl) rfl) (goes_still rfl rfl hM))
          · exact op1 (a := 0) rfl fun e w ρ (hM : Mem _ w) E => (if_pos rfl).mpr (res_ok (x_load rfl (E.d 25 _ 49 rfl rfl rfl) (by kernel_rfl) ((hM.box 1 rfl).cell 8 rfl)) (goes_still rfl rfl hM))
          ·
           refine op1 (a := 0) rfl fun e w ρ (hM : Mem _ w) E => ?_
           have e5 : ρ (.tmp 5) = .pointer (some ⟨b9_0, 0, none⟩) := E.o 5 _ rfl g5_9
           refine (if_pos rfl).mpr ?_
           exact res_ok (x_makeFunc (vs := #[]) (us := #[.pointer (some ⟨b9_0, 0, none⟩)]) rfl (by simp) (by simp [e5])) (goes_still rfl rfl hM)
          ·
           refine op1 (a := 0) rfl fun e w ρ (hM : Mem _ w) E => ?_
           have e50 : ρ (.tmp 50) = .slice at1 r.cmd.taxes.length ct := E.d 26 _ 50 rfl rfl rfl
           have e51 : ρ (.tmp 51) = .func (.func 24) #[] #[.pointer (some ⟨b9_0, 0, none⟩)] := E.d 27 _ 51 rfl rfl rfl
           refine (if_pos rfl).mpr ?_
           refine res_in (x_call (args := #[.slice at1 r.cmd.taxes.length ct, .func (.func 24) #[] #[.pointer (some ⟨b9_0, 0, none⟩)]]) rfl rfl (E.f _) (by simp [e50, e51]) (by kernel_rfl)) ?_
           refine (anyLong b9_0 at1 ct r.cmd.taxes _ _ (hM.front 0 rfl) (ht.more) hw.taxes).mono ?_
           rintro e' w' ⟨rfl, hm⟩
           exact ⟨_, rfl, goes_still rfl rfl (hm)⟩
          ·
           refine op2 (a := 0) rfl fun e w ρ (hM : Mem _ w) E => ?_
           have e46 : ρ (.tmp 46) = .bool false := E.d 22 _ 46 rfl rfl rfl
           have e52 : ρ (.tmp 52) = .bool (r.cmd.taxes.any longT) := E.d 28 _ 52 rfl rfl rfl
           exact res_ok (x_pick rfl (e46) (e52)) (goes_still rfl rfl hM)
         ·
          intro e a16 w16 hz16 hd hG hO hM
          have hd16 := hd.trans hd9
          have g1_16 := (hO 1 rfl).trans g1_9
          have g2_16 := (hO 2 rfl).trans g2_9
          have g3_16 := (hO 3 rfl).trans g3_9
          have g4_16 := (hO 4 rfl).trans g4_9
          have g53_16 : a16.tmps[53]? = some (.bool (r.cmd.taxes.any longT)) := hG 29 _ 53 rfl rfl
          have hM16 : Mem (boxC b9_0 #[.func (.func 22) #[] #[]] :: boxC b1_0 (recCells r (.slice al r.cmd.legs.length cl) (.slice at1 r.cmd.taxes.length ct)) :: R) w16 := hM
          clear hM hG hO hd
          clear hz9 hd9 hM9 g1_9 g2_9 g3_9 g4_9 g5_9
          refine then_n ?_
          cases hc9 : r.cmd.taxes.any longT
          ·
           refine cond_f (g53_16.trans (by rw [hc9])) ?_
           have hlg : ¬ longV r := by
            rintro (h | h | h | h)
            · exact hn h
            · exact hg h
            · exact hx h
            · rw [h] at hc9; cases hc9
           have hok := recOk_lay hw hlg
           refine wp_skip ?_
           refine then_n ?_
           refine wp_seq ?_
           refine region_draw 83 (fun zz e => (#[.pointer (some ⟨b1_0, 5, none⟩), .pointer (some ⟨b1_0, 5, none⟩), .pointer (some ⟨b1_0, 5, none⟩), .pointer (some ⟨b1_0, 5, none⟩), .pointer (some ⟨b1_0, 6, none⟩), .slice al r.cmd.legs.length cl, (e 0).2, .pointer (some ⟨b1_0, 5, none⟩), .pointer (some ⟨b1_0, 5, none⟩), .pointer (some ⟨b1_0, 8, none⟩), .slice at1 r.cmd.taxes.length ct, (e 1).2, .pointer (some ⟨b1_0, 5, none⟩), .pointer (some ⟨b1_0, 6, none⟩), undef, .pointer (some ⟨b1_0, 5, none⟩), .pointer (some ⟨b1_0, 8, none⟩), undef] : Array Value).getD zz undef) (fun k e w => Mem (List.getD [boxC b9_0 #[.func (.func 22) #[] #[]] :: boxC b1_0 (recCells r (.slice al r.cmd.legs.length cl) (.slice at1 r.cmd.taxes.length ct)) :: R, rowC 36 3 (e 0).2 r.cmd.legs.length (cellsL legE r.cmd.legs) :: boxC b9_0 #[.func (.func 22) #[] #[]] :: boxC b1_0 (recCells r (.slice al r.cmd.legs.length cl) (.slice at1 r.cmd.taxes.length ct)) :: R, rowC 58 2 (e 1).2 r.cmd.taxes.length (cellsL taxE r.cmd.taxes) :: rowC 36 3 (e 0).2 r.cmd.legs.length (cellsL legE r.cmd.legs) :: boxC b9_0 #[.func (.func 22) #[] #[]] :: boxC b1_0 (recCells r (.slice al r.cmd.legs.length cl) (.slice at1 r.cmd.taxes.length ct)) :: R, rowC 58 2 (e 1).2 r.cmd.taxes.length (cellsL taxE r.cmd.taxes) :: rowC 36 3 (e 0).2 r.cmd.legs.length (cellsL legE r.cmd.legs) :: boxC b9_0 #[.func (.func 22) #[] #[]] :: boxC b1_0 (recCells r ((e 0).2) (.slice at1 r.cmd.taxes.length ct)) :: R, rowC 58 2 (e 1).2 r.cmd.taxes.length (cellsL taxE r.cmd.taxes) :: rowC 36 3 (e 0).2 r.cmd.legs.length (cellsL legE r.cmd.legs) :: boxC b9_0 #[.func (.func 22) #[] #[]] :: boxC b1_0 (recCells r ((e 0).2) ((e 1).2)) :: R] k []) w) (fun _ => (0, undef)) [6, 11, 14, 17] [[], [], [], [2], [2, 3], [2, 3, 4], [2, 3, 4, 5], [], [7], [7, 8], [7, 8, 9], [2, 3, 4, 5, 6, 7, 8, 9, 10], [0, 2, 3, 4, 5, 6, 7, 8, 9, 10, 11], [0, 2, 3, 4, 5, 6, 7, 8, 9, 10, 11, 12], [0, 2, 3, 4, 5, 6, 7, 8, 9, 10, 11, 12, 13], [0, 1, 2, 3, 4, 5, 6, 7, 8, 9, 10, 11, 12, 13, 14], [0, 1, 2, 3, 4, 5, 6, 7, 8, 9, 10, 11, 12, 13, 14, 15], [0, 1, 2, 3, 4, 5, 6, 7, 8, 9, 10, 11, 12, 13, 14, 15, 16]] [0, 0, 0, 0, 0, 0, 0, 0, 0, 0, 0, 1, 2, 2, 2, 3, 3, 3] [2, 3, 0, 0, 0, 0, 0, 1, 1, 1, 1, 1, 2, 2, 2, 3, 3, 3] (fun _ _ => false) hz16 (by kernel_rfl) (by kernel_rfl) (by kernel_rfl) (by kernel_rfl) (by kernel_rfl) ?_ (show Mem _ _ from hM16.drew) ?_ ?_
           · exact ⟨fun _ _ _ => rfl, fun _ _ _ => rfl, fun _ _ _ => rfl, fun _ _ _ => rfl, fun _ _ _ => rfl, fun _ _ _ => rfl, fun e e' h => congrArg (fun x : Rv => (x.2 : Value)) (h 0 (by decide)), fun _ _ _ => rfl, fun _ _ _ => rfl, fun _ _ _ => rfl, fun _ _ _ => rfl, fun e e' h => congrArg (fun x : Rv => (x.2 : Value)) (h 1 (by decide)), fun _ _ _ => rfl, fun _ _ _ => rfl, fun _ _ _ => rfl, fun _ _ _ => rfl, fun _ _ _ => rfl, fun _ _ _ => rfl, trivial⟩
           ·
            refine ⟨?_, ?_, ?_, ?_, ?_, ?_, ?_, ?_, ?_, ?_, ?_, ?_, ?_, ?_, ?_, ?_, ?_, ?_, trivial⟩
            ·
             intro zk e w ρ zhl zhh hO E
             obtain rfl | rfl | rfl : zk = 0 ∨ zk = 1 ∨ zk = 2 := by have h1 : 0 ≤ zk := zhl; have h2 : zk ≤ 2 := zhh; omega
             ·
              have e4 := E.o 4 _ rfl g4_16
              have hM : Mem _ w := hO
              refine (if_pos rfl).mpr ?_
              exact res_ok (x_move rfl (e4)) (goes_still rfl rfl hM)
             ·
              have e4 := E.o 4 _ rfl g4_16
              have hM : Mem _ w := hO
              refine (if_pos rfl).mpr ?_
              exact res_ok (x_move rfl (e4)) (goes_still rfl rfl hM)
             ·
              have e4 := E.o 4 _ rfl g4_16
              have hM : Mem _ w := hO
              refine (if_pos rfl).mpr ?_
              exact res_ok (x_move rfl (e4)) (goes_still rfl rfl hM)
            ·
             intro zk e w ρ zhl zhh hO E
             obtain rfl | rfl | rfl | rfl : zk = 0 ∨ zk = 1 ∨ zk = 2 ∨ zk = 3 := by have h1 : 0 ≤ zk := zhl; have h2 : zk ≤ 3 := zhh; omega
             ·
              have e4 := E.o 4 _ rfl g4_16
              have hM : Mem _ w := hO
              refine (if_pos rfl).mpr ?_
              exact res_ok (x_move rfl (e4)) (goes_still rfl rfl hM)
             ·
              have e4 := E.o 4 _ rfl g4_16
              have hM : Mem _ w := hO
              refine (if_pos rfl).mpr ?_
              exact res_ok (x_move rfl (e4)) (goes_still rfl rfl hM)
             ·
              have e4 := E.o 4 _ rfl g4_16
              have hM : Mem _ w := hO
              refine (if_pos rfl).mpr ?_
              exact res_ok (x_move rfl (e4)) (goes_still rfl rfl hM)
             ·
              have e4 := E.o 4 _ rfl g4_16
              have hM : Mem _ w := hO
              refine (if_pos rfl).mpr ?_
              exact res_ok (x_move rfl (e4)) (goes_still rfl rfl hM)
            · exact op2 (a := 0) rfl fun e w ρ (hM : Mem _ w) E => res_ok (x_move rfl (E.o 4 _ rfl g4_16)) (goes_still rfl rfl hM)
            · exact op2 (a := 0) rfl fun e w ρ (hM : Mem _ w) E => res_ok (x_nil rfl (E.d 2 _ 56 rfl rfl rfl)) (goes_still rfl rfl hM)
            · exact op2 (a := 0) rfl fun e w ρ (hM : Mem _ w) E => res_ok (x_fieldAddr (off := 1) rfl (E.d 3 _ 57 rfl rfl rfl) (by kernel_rfl) rfl) (goes_still rfl rfl hM)
            · exact op2 (a := 0) rfl fun e w ρ (hM : Mem _ w) E => res_ok (x_load rfl (E.d 4 _ 58 rfl rfl rfl) (by kernel_rfl) ((hM.box 1 rfl).cell 6 rfl)) (goes_still rfl rfl hM)
            ·
             refine op2 (a := 0) rfl fun e w ρ (hM : Mem _ w) E => ?_
             have e59 : ρ (.tmp 59) = .slice al r.cmd.legs.length cl := E.d 5 _ 59 rfl rfl rfl
             refine res_in (x_call (args := #[.slice al r.cmd.legs.length cl]) rfl rfl (E.f _) (by simp [e59]) (by kernel_rfl)) ?_
             refine (clone_Leg al cl r.cmd.legs _ _ hM (hl.more.more) (hw.legs)).mono ?_
             rintro e' w' ⟨v', rfl, hm⟩
             exact ⟨_, rfl, goes_tick rfl (0, v') rfl hm⟩
            ·
             intro zk e w ρ zhl zhh hO E
             obtain rfl | rfl : zk = 0 ∨ zk = 1 := by have h1 : 0 ≤ zk := zhl; have h2 : zk ≤ 1 := zhh; omega
             ·
              have e4 := E.o 4 _ rfl g4_16
              have hM : Mem _ w := hO
              refine (if_pos rfl).mpr ?_
              exact res_ok (x_move rfl (e4)) (goes_still rfl rfl hM)
             ·
              have e4 := E.o 4 _ rfl g4_16
              have hM : Mem _ w := hO
              refine (if_pos rfl).mpr ?_
              exact res_ok (x_move rfl (e4)) (goes_still rfl rfl hM)
            ·
             intro zk e w ρ zhl zhh hO E
             obtain rfl | rfl : zk = 0 ∨ zk = 1 := by have h1 : 0 ≤ zk := zhl; have h2 : zk ≤ 1 := zhh; omega
             ·
              have e61 := E.d 7 _ 61 rfl rfl rfl
              have hM : Mem _ w := hO
              refine (if_pos rfl).mpr ?_
              exact res_ok (x_nil rfl (e61)) (goes_still rfl rfl hM)
             ·
              have e61 := E.d 7 _ 61 rfl rfl rfl
              have hM : Mem _ w := hO
              refine (if_pos rfl).mpr ?_
              exact res_ok (x_nil rfl (e61)) (goes_still rfl rfl hM)
            ·
             intro zk e w ρ zhl zhh hO E
             obtain rfl | rfl : zk = 0 ∨ zk = 1 := by have h1 : 0 ≤ zk := zhl; have h2 : zk ≤ 1 := zhh; omega
             ·
              have e62 := E.d 8 _ 62 rfl rfl rfl
              have hM : Mem _ w := hO
              refine (if_pos rfl).mpr ?_
              exact res_ok (x_fieldAddr (off := 3) rfl (e62) (by kernel_rfl) rfl) (goes_still rfl rfl hM)
             ·
              have e62 := E.d 8 _ 62 rfl rfl rfl
              have hM : Mem _ w := hO
              refine (if_pos rfl).mpr ?_
              exact res_ok (x_fieldAddr (off := 3) rfl (e62) (by kernel_rfl) rfl) (goes_still rfl rfl hM)
            ·
             intro zk e w ρ zhl zhh hO E
             obtain rfl | rfl : zk = 0 ∨ zk = 1 := by have h1 : 0 ≤ zk := zhl; have h2 : zk ≤ 1 := zhh; omega
             ·
              have e63 := E.d 9 _ 63 rfl rfl rfl
              have hM : Mem _ w := hO
              refine (if_pos rfl).mpr ?_
              exact res_ok (x_load rfl (e63) (by kernel_rfl) ((hM.box 1 rfl).cell 8 rfl)) (goes_still rfl rfl hM)
             ·
              have e63 := E.d 9 _ 63 rfl rfl rfl
              have hM : Mem _ w := hO
              refine (if_pos rfl).mpr ?_
              exact res_ok (x_load rfl (e63) (by kernel_rfl) ((hM.box 2 rfl).cell 8 rfl)) (goes_still rfl rfl hM)
            ·
             refine op2 (a := 1) rfl fun e w ρ (hM : Mem _ w) E => ?_
             have e64 : ρ (.tmp 64) = .slice at1 r.cmd.taxes.length ct := E.d 10 _ 64 rfl rfl rfl
             refine res_in (x_call (args := #[.slice at1 r.cmd.taxes.length ct]) rfl rfl (E.f _) (by simp [e64]) (by kernel_rfl)) ?_
             refine (clone_Tax at1 ct r.cmd.taxes _ _ hM (ht.more.more.more) (hw.taxes)).mono ?_
             rintro e' w' ⟨v', rfl, hm⟩
             exact ⟨_, rfl, goes_tick rfl (0, v') rfl hm⟩
            · exact op2 (a := 2) rfl fun e w ρ (hM : Mem _ w) E => res_ok (x_nil rfl (E.d 0 _ 54 rfl rfl rfl)) (goes_still rfl rfl hM)
            · exact op2 (a := 2) rfl fun e w ρ (hM : Mem _ w) E => res_ok (x_fieldAddr (off := 1) rfl (E.d 12 _ 66 rfl rfl rfl) (by kernel_rfl) rfl) (goes_still rfl rfl hM)
            ·
             refine op2 (a := 2) rfl fun e w ρ (hM : Mem _ w) E => ?_
             have e60 := E.d 6 _ 60 rfl rfl rfl
             have e67 := E.d 13 _ 67 rfl rfl rfl
             have hrc := row_cell (hM.owns 1 rfl)
             obtain ⟨w', hr, hm⟩ := Mem.store (P := Try.prog) hM 3 rfl 25 6 ((e 0).2) [(e 0).2] hrc.1 (by kernel_rfl) (Nat.le_of_ble_eq_true rfl) (by simp [hrc.2])
             exact res_st (x_store rfl (e67) (e60) hr) (goes_tick rfl (0, undef) rfl hm)
            · exact op2 (a := 3) rfl fun e w ρ (hM : Mem _ w) E => res_ok (x_nil rfl (E.d 1 _ 55 rfl rfl rfl)) (goes_still rfl rfl hM)
            · exact op2 (a := 3) rfl fun e w ρ (hM : Mem _ w) E => res_ok (x_fieldAddr (off := 3) rfl (E.d 15 _ 68 rfl rfl rfl) (by kernel_rfl) rfl) (goes_still rfl rfl hM)
            ·
             refine op2 (a := 3) rfl fun e w ρ (hM : Mem _ w) E => ?_
             have e65 := E.d 11 _ 65 rfl rfl rfl
             have e69 := E.d 16 _ 69 rfl rfl rfl
             have hrc := row_cell (hM.owns 0 rfl)
             obtain ⟨w', hr, hm⟩ := Mem.store (P := Try.prog) hM 3 rfl 26 8 ((e 1).2) [(e 1).2] hrc.1 (by kernel_rfl) (Nat.le_of_ble_eq_true rfl) (by simp [hrc.2])
             exact res_st (x_store rfl (e69) (e65) hr) (goes_tick rfl (0, undef) rfl hm)
           ·
            intro e a17 w17 hz17 hd hG hO hM
            have hd17 := hd.trans hd16
            have g1_17 := (hO 1 rfl).trans g1_16
            have g2_17 := (hO 2 rfl).trans g2_16
            have g3_17 := (hO 3 rfl).trans g3_16
            have hM17 : Mem (rowC 58 2 (e 1).2 r.cmd.taxes.length (cellsL taxE r.cmd.taxes) :: rowC 36 3 (e 0).2 r.cmd.legs.length (cellsL legE r.cmd.legs) :: boxC b9_0 #[.func (.func 22) #[] #[]] :: boxC b1_0 (recCells r ((e 0).2) ((e 1).2)) :: R) w17 := hM
            clear hM hG hO hd
            clear hz16 hd16 hM16 g1_16 g2_16 g3_16 g4_16 g53_16
            generalize (e 0).2 = v17_0 at *
            generalize (e 1).2 = v17_1 at *
            refine then_n ?_
            refine wp_seq ?_
            refine region_seq 83 (fun zz e => (#[.agg #[.slice none 0 0, .nilFunc, .bool false], .pointer (some ⟨(e 0).1, 0, none⟩), .pointer (some ⟨(e 0).1, 0, none⟩)] : Array Value).getD zz undef) (fun k e w => Mem (List.getD [rowC 58 2 v17_1 r.cmd.taxes.length (cellsL taxE r.cmd.taxes) :: rowC 36 3 v17_0 r.cmd.legs.length (cellsL legE r.cmd.legs) :: boxC b9_0 #[.func (.func 22) #[] #[]] :: boxC b1_0 (recCells r v17_0 v17_1) :: R, boxC ((e 0).1) #[.slice none 0 0, .nilFunc, .bool false] :: rowC 58 2 v17_1 r.cmd.taxes.length (cellsL taxE r.cmd.taxes) :: rowC 36 3 v17_0 r.cmd.legs.length (cellsL legE r.cmd.legs) :: boxC b9_0 #[.func (.func 22) #[] #[]] :: boxC b1_0 (recCells r v17_0 v17_1) :: R] k []) w) (fun _ => (0, undef)) [1] [0, 0, 1] (fun _ _ => false) hz17 (by kernel_rfl) (by kernel_rfl) (by kernel_rfl) ?_ (show Mem _ _ from hM17) ?_ ?_
            · exact ⟨fun _ _ _ => rfl, fun e e' h => congrArg (fun x : Rv => (.pointer (some ⟨x.1, 0, none⟩) : Value)) (h 0 (by decide)), fun e e' h => congrArg (fun x : Rv => (.pointer (some ⟨x.1, 0, none⟩) : Value)) (h 0 (by decide)), trivial⟩
            ·
             refine ⟨?_, ?_, ?_, trivial⟩
             ·
              refine op2 (a := 0) rfl fun e w ρ (hM : Mem _ w) E => ?_
              exact res_ok (v := .agg #[.slice none 0 0, .nilFunc, .bool false]) (by simp [go_sem, execOp, Instr.build, Instr.fill, E.c, E.f] <;> rfl) (goes_still rfl rfl hM)
             ·
              refine op2 (a := 0) rfl fun e w ρ (hM : Mem _ w) E => ?_
              have e70 : ρ (.tmp 70) = .agg #[.slice none 0 0, .nilFunc, .bool false] := E.d 0 _ 70 rfl rfl rfl
              exact res_ok (x_box rfl (e70)) (goes_tick rfl (w.heap.size, undef) rfl (hM.alloc _ _))
             · exact op2 (a := 1) rfl fun e w ρ (hM : Mem _ w) E => res_ok (x_assign rfl (E.d 1 _ 71 rfl rfl rfl)) (goes_still rfl rfl hM)
            ·
             intro e a18 w18 hz18 hd hG hO hM
             have hd18 := hd.trans hd17
             have g1_18 := (hO 1 rfl).trans g1_17
             have g2_18 := (hO 2 rfl).trans g2_17
             have g3_18 := (hO 3 rfl).trans g3_17
             have g6_18 : a18.tmps[6]? = some (.pointer (some ⟨(e 0).1, 0, none⟩)) := hG 2 _ 6 rfl rfl
             have hM18 : Mem (boxC ((e 0).1) #[.slice none 0 0, .nilFunc, .bool false] :: rowC 58 2 v17_1 r.cmd.taxes.length (cellsL taxE r.cmd.taxes) :: rowC 36 3 v17_0 r.cmd.legs.length (cellsL legE r.cmd.legs) :: boxC b9_0 #[.func (.func 22) #[] #[]] :: boxC b1_0 (recCells r v17_0 v17_1) :: R) w18 := hM
             clear hM hG hO hd
             clear hz17 hd17 hM17 g1_17 g2_17 g3_17
             generalize (e 0).1 = b18_0 at *
             refine then_n ?_
             refine wp_seq ?_
             refine region_seq 83 (fun zz e => (#[.pointer (some ⟨b18_0, 0, none⟩), .pointer (some ⟨b18_0, 0, none⟩), .func (.func 27) #[.pointer (some ⟨b18_0, 0, none⟩)] #[], .pointer (some ⟨b18_0, 0, none⟩), .pointer (some ⟨b18_0, 1, none⟩), undef] : Array Value).getD zz undef) (fun k e w => Mem (List.getD [boxC b18_0 #[.slice none 0 0, .nilFunc, .bool false] :: rowC 58 2 v17_1 r.cmd.taxes.length (cellsL taxE r.cmd.taxes) :: rowC 36 3 v17_0 r.cmd.legs.length (cellsL legE r.cmd.legs) :: boxC b9_0 #[.func (.func 22) #[] #[]] :: boxC b1_0 (recCells r v17_0 v17_1) :: R, boxC b18_0 #[.slice none 0 0, .func (.func 27) #[.pointer (some ⟨b18_0, 0, none⟩)] #[], .bool false] :: rowC 58 2 v17_1 r.cmd.taxes.length (cellsL taxE r.cmd.taxes) :: rowC 36 3 v17_0 r.cmd.legs.length (cellsL legE r.cmd.legs) :: boxC b9_0 #[.func (.func 22) #[] #[]] :: boxC b1_0 (recCells r v17_0 v17_1) :: R] k []) w) (fun _ => (0, undef)) [5] [0, 0, 0, 0, 0, 0] (fun _ _ => false) hz18 (by kernel_rfl) (by kernel_rfl) (by kernel_rfl) ?_ (show Mem _ _ from hM18) ?_ ?_
             · exact ⟨fun _ _ _ => rfl, fun _ _ _ => rfl, fun _ _ _ => rfl, fun _ _ _ => rfl, fun _ _ _ => rfl, fun _ _ _ => rfl, trivial⟩
             ·
              refine ⟨?_, ?_, ?_, ?_, ?_, ?_, trivial⟩
              · exact op2 (a := 0) rfl fun e w ρ (hM : Mem _ w) E => res_ok (x_move rfl (E.o 6 _ rfl g6_18)) (goes_still rfl rfl hM)
              · exact op2 (a := 0) rfl fun e w ρ (hM : Mem _ w) E => res_ok (x_move rfl (E.o 6 _ rfl g6_18)) (goes_still rfl rfl hM)
              ·
               refine op2 (a := 0) rfl fun e w ρ (hM : Mem _ w) E => ?_
               have e73 : ρ (.tmp 73) = .pointer (some ⟨b18_0, 0, none⟩) := E.d 1 _ 73 rfl rfl rfl
               exact res_ok (x_makeFunc (vs := #[.pointer (some ⟨b18_0, 0, none⟩)]) (us := #[]) rfl (by simp [e73]) (by simp)) (goes_still rfl rfl hM)
              · exact op2 (a := 0) rfl fun e w ρ (hM : Mem _ w) E => res_ok (x_nil rfl (E.d 0 _ 72 rfl rfl rfl)) (goes_still rfl rfl hM)
              · exact op2 (a := 0) rfl fun e w ρ (hM : Mem _ w) E => res_ok (x_fieldAddr (off := 1) rfl (E.d 3 _ 75 rfl rfl rfl) (by kernel_rfl) rfl) (goes_still rfl rfl hM)
              ·
               refine op2 (a := 0) rfl fun e w ρ (hM : Mem _ w) E => ?_
               have e74 := E.d 2 _ 74 rfl rfl rfl
               have e76 := E.d 4 _ 76 rfl rfl rfl
               obtain ⟨w', hr, hm⟩ := Mem.store (P := Try.prog) hM 0 rfl 69 1 (.func (.func 27) #[.pointer (some ⟨b18_0, 0, none⟩)] #[]) [.func (.func 27) #[.pointer (some ⟨b18_0, 0, none⟩)] #[]] rfl (by kernel_rfl) (Nat.le_of_ble_eq_true rfl) (by rfl)
               exact res_st (x_store rfl (e76) (e74) hr) (goes_tick rfl (0, undef) rfl hm)
             ·
              intro e a19 w19 hz19 hd hG hO hM
              have hd19 := hd.trans hd18
              have g1_19 := (hO 1 rfl).trans g1_18
              have g2_19 := (hO 2 rfl).trans g2_18
              have g3_19 := (hO 3 rfl).trans g3_18
              have g6_19 := (hO 6 rfl).trans g6_18
              have hM19 : Mem (boxC b18_0 #[.slice none 0 0, .func (.func 27) #[.pointer (some ⟨b18_0, 0, none⟩)] #[], .bool false] :: rowC 58 2 v17_1 r.cmd.taxes.length (cellsL taxE r.cmd.taxes) :: rowC 36 3 v17_0 r.cmd.legs.length (cellsL legE r.cmd.legs) :: boxC b9_0 #[.func (.func 22) #[] #[]] :: boxC b1_0 (recCells r v17_0 v17_1) :: R) w19 := hM
              clear hM hG hO hd
              clear hz18 hd18 hM18 g1_18 g2_18 g3_18 g6_18
              refine then_n ?_
              refine wp_seq ?_
              replace hM19 := hM19.noRow 5 1
              have hMw := walk_shut (m := .lay) (pw := b18_0) (σ := ⟨false, []⟩) ((((((hM19.erase 4 rfl).front 2 rfl).front 3 rfl).front 4 rfl).front 3 rfl).front 4 rfl)
              replace hM19 : Mem (walkC .lay b18_0 ⟨false, []⟩ :: recC b1_0 r :: R) w19 := (rec_shut (r := r) (vl := v17_0) (vt := v17_1) (((hMw.front 3 rfl).front 3 rfl).front 3 rfl)).front 1 rfl
              refine region_seq 83 (fun zz e => (#[.pointer (some ⟨b18_0, 0, none⟩), .tuple #[]] : Array Value).getD zz undef) (fun k e w => Mem (List.getD [walkC .lay b18_0 ⟨false, []⟩ :: recC b1_0 r :: R, walkC .lay b18_0 (overF .lay ⟨false, []⟩ r).2 :: recC b1_0 (overF .lay ⟨false, []⟩ r).1 :: R] k []) w) (fun _ => (0, undef)) [1] [0, 0] (fun _ _ => false) hz19 (by kernel_rfl) (by kernel_rfl) (by kernel_rfl) ?_ (show Mem _ _ from hM19) ?_ ?_
              · exact ⟨fun _ _ _ => rfl, fun _ _ _ => rfl, trivial⟩
              ·
               refine ⟨?_, ?_, trivial⟩
               · exact op2 (a := 0) rfl fun e w ρ (hM : Mem _ w) E => res_ok (x_move rfl (E.o 6 _ rfl g6_19)) (goes_still rfl rfl hM)
               ·
                refine op2 (a := 0) rfl fun e w ρ (hM : Mem _ w) E => ?_
                have e1 : ρ (.tmp 1) = .pointer (some ⟨b1_0, 0, none⟩) := E.o 1 _ rfl g1_19
                have e77 : ρ (.tmp 77) = .pointer (some ⟨b18_0, 0, none⟩) := E.d 0 _ 77 rfl rfl rfl
                refine res_in (x_call (args := #[.pointer (some ⟨b18_0, 0, none⟩), .pointer (some ⟨b1_0, 0, none⟩)]) rfl rfl (E.f _) (by simp [e1, e77]) (by kernel_rfl)) ?_
                refine (over_at .lay b18_0 ⟨false, []⟩ b1_0 r _ _ ((hM.front 1 rfl).front 1 rfl) hok (by decide)).mono ?_
                rintro e' w' ⟨rfl, hm⟩
                exact ⟨_, rfl, goes_tick rfl (0, undef) rfl hm⟩
              ·
               intro e a20 w20 hz20 hd hG hO hM
               have hd20 := hd.trans hd19
               have g2_20 := (hO 2 rfl).trans g2_19
               have g3_20 := (hO 3 rfl).trans g3_19
               have g6_20 := (hO 6 rfl).trans g6_19
               have hM20 : Mem (walkC .lay b18_0 (overF .lay ⟨false, []⟩ r).2 :: recC b1_0 (overF .lay ⟨false, []⟩ r).1 :: R) w20 := hM
               clear hM hG hO hd
               clear hz19 hd19 hM19 g1_19 g2_19 g3_19 g6_19
               refine then_n ?_
               refine wp_seq ?_
               obtain ⟨vb, hM20⟩ := walk_open hM20
               replace hM20 : Mem (boxC b18_0 #[vb, .func (.func 27) #[.pointer (some ⟨b18_0, 0, none⟩)] #[], .bool ((overF .lay ⟨false, []⟩ r).2.bad)] :: rowC 5 1 vb (overF .lay ⟨false, []⟩ r).2.bs.length ((overF .lay ⟨false, []⟩ r).2.bs.map (.int .u8)) :: recC b1_0 (overF .lay ⟨false, []⟩ r).1 :: R) w20 := hM20
               refine region_seq 83 (fun zz e => (#[.pointer (some ⟨b18_0, 0, none⟩), .pointer (some ⟨b18_0, 0, none⟩), .pointer (some ⟨b18_0, 0, none⟩), vb, vb, .int .i64 0] : Array Value).getD zz undef) (fun k e w => Mem (List.getD [boxC b18_0 #[vb, .func (.func 27) #[.pointer (some ⟨b18_0, 0, none⟩)] #[], .bool ((overF .lay ⟨false, []⟩ r).2.bad)] :: rowC 5 1 vb (overF .lay ⟨false, []⟩ r).2.bs.length ((overF .lay ⟨false, []⟩ r).2.bs.map (.int .u8)) :: recC b1_0 (overF .lay ⟨false, []⟩ r).1 :: R] k []) w) (fun _ => (0, undef)) [] [0, 0, 0, 0, 0, 0] (fun _ _ => false) hz20 (by kernel_rfl) (by kernel_rfl) (by kernel_rfl) ?_ (show Mem _ _ from hM20) ?_ ?_
               · exact ⟨fun _ _ _ => rfl, fun _ _ _ => rfl, fun _ _ _ => rfl, fun _ _ _ => rfl, fun _ _ _ => rfl, fun _ _ _ => rfl, trivial⟩
               ·
                refine ⟨?_, ?_, ?_, ?_, ?_, ?_, trivial⟩
                · exact op2 (a := 0) rfl fun e w ρ (hM : Mem _ w) E => res_ok (x_move rfl (E.o 6 _ rfl g6_20)) (goes_still rfl rfl hM)
                · exact op2 (a := 0) rfl fun e w ρ (hM : Mem _ w) E => res_ok (x_nil rfl (E.d 0 _ 79 rfl rfl rfl)) (goes_still rfl rfl hM)
                · exact op2 (a := 0) rfl fun e w ρ (hM : Mem _ w) E => res_ok (x_fieldAddr (off := 0) rfl (E.d 1 _ 80 rfl rfl rfl) (by kernel_rfl) rfl) (goes_still rfl rfl hM)
                · exact op2 (a := 0) rfl fun e w ρ (hM : Mem _ w) E => res_ok (x_load rfl (E.d 2 _ 81 rfl rfl rfl) (by kernel_rfl) ((hM.box 0 rfl).cell 0 rfl)) (goes_still rfl rfl hM)
                · exact op2 (a := 0) rfl fun e w ρ (hM : Mem _ w) E => res_ok (x_assign rfl (E.d 3 _ 82 rfl rfl rfl)) (goes_still rfl rfl hM)
                · exact op2 (a := 0) rfl fun e w ρ (hM : Mem _ w) E => res_ok (x_assign rfl (E.c _)) (goes_still rfl rfl hM)
               ·
                intro e a21 w21 hz21 hd hG hO hM
                have hd21 := hd.trans hd20
                have g2_21 : a21.tmps[2]? = some (vb) := hG 4 _ 2 rfl rfl
                have g3_21 : a21.tmps[3]? = some (.int .i64 0) := hG 5 _ 3 rfl rfl
                have hM21 : Mem (boxC b18_0 #[vb, .func (.func 27) #[.pointer (some ⟨b18_0, 0, none⟩)] #[], .bool ((overF .lay ⟨false, []⟩ r).2.bad)] :: rowC 5 1 vb (overF .lay ⟨false, []⟩ r).2.bs.length ((overF .lay ⟨false, []⟩ r).2.bs.map (.int .u8)) :: recC b1_0 (overF .lay ⟨false, []⟩ r).1 :: R) w21 := hM
                clear hM hG hO hd
                clear hz20 hd20 hM20 g2_20 g3_20 g6_20
                refine then_n ?_
                refine wp_ret ?_
                refine ret_2 Try.results12 hd21 g2_21 g3_21 ?_
                have hno := of_decide_eq_false (hbb.symm.trans hc5)
                have hE : putE r = 0 := (if_neg hno).trans (if_neg hlg)
                have hB : putB r = (overF .lay ⟨false, []⟩ r).2.bs := if_pos hE
                exact ⟨_, by rw [hE], by rw [hB]; exact (((hM21.erase 2 rfl).erase 0 rfl).front 0 rfl)⟩
          ·
           refine cond_t (g53_16.trans (by rw [hc9])) ?_
           refine wp_seq ?_
           refine region_seq 83 (fun zz e => (#[.slice none 0 0, .int .i64 2] : Array Value).getD zz undef) (fun k e w => Mem (List.getD [boxC b9_0 #[.func (.func 22) #[] #[]] :: boxC b1_0 (recCells r (.slice al r.cmd.legs.length cl) (.slice at1 r.cmd.taxes.length ct)) :: R] k []) w) (fun _ => (0, undef)) [] [0, 0] (fun _ _ => false) hz16 (by kernel_rfl) (by kernel_rfl) (by kernel_rfl) ?_ (show Mem _ _ from hM16) ?_ ?_
           · exact ⟨fun _ _ _ => rfl, fun _ _ _ => rfl, trivial⟩
           ·
            refine ⟨?_, ?_, trivial⟩
            · exact op2 (a := 0) rfl fun e w ρ (hM : Mem _ w) E => res_ok (x_assign rfl (E.c _)) (goes_still rfl rfl hM)
            · exact op2 (a := 0) rfl fun e w ρ (hM : Mem _ w) E => res_ok (x_assign rfl (E.c _)) (goes_still rfl rfl hM)
           ·
            intro e a22 w22 hz22 hd hG hO hM
            have hd22 := hd.trans hd16
            have g1_22 := (hO 1 rfl).trans g1_16
            have g2_22 : a22.tmps[2]? = some (.slice none 0 0) := hG 0 _ 2 rfl rfl
            have g3_22 : a22.tmps[3]? = some (.int .i64 2) := hG 1 _ 3 rfl rfl
            have g4_22 := (hO 4 rfl).trans g4_16
            have hM22 : Mem (boxC b9_0 #[.func (.func 22) #[] #[]] :: boxC b1_0 (recCells r (.slice al r.cmd.legs.length cl) (.slice at1 r.cmd.taxes.length ct)) :: R) w22 := hM
            clear hM hG hO hd
            clear hz16 hd16 hM16 g1_16 g2_16 g3_16 g4_16 g53_16
            refine then_n ?_
            refine wp_ret ?_
            refine then_r ?_
            refine ret_2 Try.results12 hd22 g2_22 g3_22 ?_
            have hno := of_decide_eq_false (hbb.symm.trans hc5)
            have hE : putE r = 2 := (if_neg hno).trans (if_pos (.inr (.inr (.inr hc9))))
            have hB : putB r = [] := if_neg (by rw [hE]; decide)
            exact ⟨_, by rw [hE], by rw [hB]; exact (hM22.tail.tail).noRow _ _⟩
   ·
    refine cond_t (g21_7.trans (by rw [hc5])) ?_
    refine wp_seq ?_
    refine region_seq 83 (fun zz e => (#[.slice none 0 0, .int .i64 140] : Array Value).getD zz undef) (fun k e w => Mem (List.getD [boxC b1_0 (recCells r (.slice al r.cmd.legs.length cl) (.slice at1 r.cmd.taxes.length ct)) :: R] k []) w) (fun _ => (0, undef)) [] [0, 0] (fun _ _ => false) hz7 (by kernel_rfl) (by kernel_rfl) (by kernel_rfl) ?_ (show Mem _ _ from hM7) ?_ ?_
    · exact ⟨fun _ _ _ => rfl, fun _ _ _ => rfl, trivial⟩
    ·
     refine ⟨?_, ?_, trivial⟩
     · exact op2 (a := 0) rfl fun e w ρ (hM : Mem _ w) E => res_ok (x_assign rfl (E.c _)) (goes_still rfl rfl hM)
     · exact op2 (a := 0) rfl fun e w ρ (hM : Mem _ w) E => res_ok (x_assign rfl (E.c _)) (goes_still rfl rfl hM)
    ·
     intro e a23 w23 hz23 hd hG hO hM
     have hd23 := hd.trans hd7
     have g1_23 := (hO 1 rfl).trans g1_7
     have g2_23 : a23.tmps[2]? = some (.slice none 0 0) := hG 0 _ 2 rfl rfl
     have g3_23 : a23.tmps[3]? = some (.int .i64 140) := hG 1 _ 3 rfl rfl
     have hM23 : Mem (boxC b1_0 (recCells r (.slice al r.cmd.legs.length cl) (.slice at1 r.cmd.taxes.length ct)) :: R) w23 := hM
     clear hM hG hO hd
     clear hz7 hd7 hM7 g1_7 g2_7 g3_7 g21_7
     refine then_n ?_
     refine wp_ret ?_
     refine then_r ?_
     refine ret_2 Try.results12 hd23 g2_23 g3_23 ?_
     have hE : putE r = 140 := if_pos (of_decide_eq_true (hbb.symm.trans hc5))
     have hB : putB r = [] := if_neg (by rw [hE]; decide)
     exact ⟨_, by rw [hE], by rw [hB]; exact (hM23.tail).noRow _ _⟩
end Go.Proofs.Ytfcjmpgbohgoeaa
