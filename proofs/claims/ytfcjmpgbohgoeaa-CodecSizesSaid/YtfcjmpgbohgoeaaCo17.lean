/- CODEC: the walk of CodecSizes. -/
import Derived.Test.YtfcjmpgbohgoeaaCo16
namespace Go.Proofs.Ytfcjmpgbohgoeaa
open Go.RowKit Go.Lib Go.Tk Go.Shelf Go.Vc
set_option linter.unusedVariables false
set_option linter.unusedSimpArgs false
attribute [-go_sem] loadCellsFrom
theorem not_great {r : RecV} (h : greatV r = false) : (r.cmd.name.size ≤ 600 ∧ r.cmd.legs.length ≤ 600 ∧ r.cmd.taxes.length ≤ 600) ∧ ∀ t ∈ r.cmd.taxes, t.code.size ≤ 600 := by
 unfold greatV at h
 simp only [Bool.or_eq_false_iff, decide_eq_false_iff_not] at h
 obtain ⟨⟨⟨h1, h2⟩, h3⟩, h4⟩ := h
 refine ⟨⟨by omega, by omega, by omega⟩, fun t ht => ?_⟩
 have := List.any_eq_false.1 h4 t ht
 unfold hugeT at this
 simp at this; omega
theorem sumC_le : ∀ (l : List TaxV), (∀ t ∈ l, t.code.size ≤ 600) → sumC l ≤ 600 * l.length
 | [], _ => by simp [sumC]
 | t :: l, h => by
  have h1 := sumC_le l (fun t ht => h t (List.mem_cons_of_mem _ ht))
  have h2 := h t List.mem_cons_self
  unfold sumC; simp only [List.length_cons]; omega
set_option maxRecDepth 100000 in
set_option maxHeartbeats 8000000 in
theorem sizes_at (r : RecV) (al at1 : Option Addr) (cl ct : Nat) (R : List Chunk) (w : World) (hM : Mem R w) (hl : Reads R al (cellsL legE r.cmd.legs)) (ht : Reads R at1 (cellsL taxE r.cmd.taxes)) (hi : RecIn r) :
  Calls Try.prog 9 #[.agg (recCells r (.slice al r.cmd.legs.length cl) (.slice at1 r.cmd.taxes.length ct))] w fun e w' => e = .returned (.bool true) ∧ Mem R w' := by
 have hnt := hi.cmd.nt
 have hnl := hi.cmd.nl
 unfold maxLen at hnt hnl
 refine enter Try.func9 rfl Try.ntmps9 (Nat.le_of_ble_eq_true rfl) ?_
 intro a0 hz0 hd0 hg0
 have g0_0 : a0.tmps[0]? = some (.agg (recCells r (.slice al r.cmd.legs.length cl) (.slice at1 r.cmd.taxes.length ct))) := hg0 0 _ rfl
 clear hg0
 have hM0 : Mem (R) _ := hM
 refine wp_seq ?_
 refine region_seq 69 (fun zz e => (#[.pointer (some ⟨(e 0).1, 0, none⟩), .bool false] : Array Value).getD zz undef) (fun k e w => Mem (List.getD [R, boxC ((e 0).1) (recCells r (.slice al r.cmd.legs.length cl) (.slice at1 r.cmd.taxes.length ct)) :: R] k []) w) (fun _ => (0, undef)) [0] [0, 1] (fun _ _ => false) hz0 (by kernel_rfl) (by kernel_rfl) (by kernel_rfl) ?_ (show Mem _ _ from hM0) ?_ ?_
 ·
  exact ⟨fun e e' h => congrArg (fun x : Rv => (.pointer (some ⟨x.1, 0, none⟩) : Value)) (h 0 (by decide)), fun _ _ _ => rfl, trivial⟩
 ·
  refine ⟨?_, ?_, trivial⟩
  ·
   intro zk e w ρ zhl zhh hO E
   obtain rfl : zk = 0 := Nat.le_antisymm zhh zhl
   have e0 : ρ (.tmp 0) = .agg (recCells r (.slice al r.cmd.legs.length cl) (.slice at1 r.cmd.taxes.length ct)) := E.o 0 _ rfl g0_0
   have hM : Mem _ w := hO
   refine (if_pos rfl).mpr ?_
   exact res_ok (x_box rfl (e0)) (goes_tick rfl (w.heap.size, undef) rfl (hM.alloc _ _))
  ·
   intro zk e w ρ zhl zhh hO E
   obtain rfl : zk = 1 := Nat.le_antisymm zhh zhl
   have hM : Mem _ w := hO
   refine (if_pos rfl).mpr ?_
   exact res_ok (x_assign rfl (E.c _)) (goes_still rfl rfl hM)
 ·
  intro e a1 w1 hz1 hd hG hO hM
  have hd1 := hd.trans hd0
  have g1_1 : a1.tmps[1]? = some (.pointer (some ⟨(e 0).1, 0, none⟩)) := hG 0 _ 1 rfl rfl
  have g2_1 : a1.tmps[2]? = some (.bool false) := hG 1 _ 2 rfl rfl
  have hM1 : Mem (boxC ((e 0).1) (recCells r (.slice al r.cmd.legs.length cl) (.slice at1 r.cmd.taxes.length ct)) :: R) w1 := hM
  clear hM hG hO hd
  clear hz0 hd0 hM0 g0_0
  generalize (e 0).1 = b1_0 at *
  refine then_n ?_
  refine wp_seq ?_
  refine wp_seq ?_
  refine region_seq 69 (fun zz e => (#[.agg (recCells r (.slice al r.cmd.legs.length cl) (.slice at1 r.cmd.taxes.length ct)), .bool (greatV r)] : Array Value).getD zz undef) (fun k e w => Mem (List.getD [boxC b1_0 (recCells r (.slice al r.cmd.legs.length cl) (.slice at1 r.cmd.taxes.length ct)) :: R] k []) w) (fun _ => (0, undef)) [] [0, 0] (fun _ _ => false) hz1 (by kernel_rfl) (by kernel_rfl) (by kernel_rfl) ?_ (show Mem _ _ from hM1) ?_ ?_
  ·
   exact ⟨fun _ _ _ => rfl, fun _ _ _ => rfl, trivial⟩
  ·
   refine ⟨?_, ?_, trivial⟩
   ·
    intro zk e w ρ zhl zhh hO E
    obtain rfl : zk = 0 := Nat.le_antisymm zhh zhl
    have e1 := E.o 1 _ rfl g1_1
    have hM : Mem _ w := hO
    refine (if_pos rfl).mpr ?_
    exact res_ok (x_loads rfl (e1) (by kernel_rfl) (load_part (hM.box 0 rfl) [.int .u8 r.kind, .int .u8 r.cmd.kind, .int .u8 r.cmd.tick.c, .int .u64 r.cmd.tick.r, .int .u8 r.cmd.at_, .string r.cmd.name, .slice al r.cmd.legs.length cl, .int .i64 r.cmd.fare, .slice at1 r.cmd.taxes.length ct, .int .i64 r.cmd.penalty, .int .i64 r.cmd.amount, .int .u8 r.frm, .int .u64 r.number, .int .u8 r.msg.kind, .int .u8 r.msg.tick.c, .int .u64 r.msg.tick.r, .int .u8 r.msg.at_, .int .u8 r.msg.leg.c, .int .u16 r.msg.leg.f, .int .u32 r.msg.leg.x, .int .i64 r.msg.value, .int .u8 r.msg.status, .int .u32 r.msg.nonce, .int .i64 r.msg.amount, .int .i64 r.msg.code] rfl (Nat.le_of_ble_eq_true rfl) rfl)) (goes_still rfl rfl hM)
   ·
    intro zk e w ρ zhl zhh hO E
    obtain rfl : zk = 0 := Nat.le_antisymm zhh zhl
    have e8 : ρ (.tmp 8) = .agg (recCells r (.slice al r.cmd.legs.length cl) (.slice at1 r.cmd.taxes.length ct)) := E.d 0 _ 8 rfl rfl rfl
    have hM : Mem _ w := hO
    refine (if_pos rfl).mpr ?_
    refine res_in (x_call (args := #[.agg (recCells r (.slice al r.cmd.legs.length cl) (.slice at1 r.cmd.taxes.length ct))]) rfl rfl (E.f _) (by simp [e8]) (by kernel_rfl)) ?_
    refine (great_at r al at1 cl ct _ _ hM (ht.more) hi.cmd.nt).mono ?_
    rintro e' w' ⟨rfl, hm⟩
    exact ⟨_, rfl, goes_still rfl rfl (hm)⟩
  ·
   intro e a2 w2 hz2 hd hG hO hM
   have hd2 := hd.trans hd1
   have g1_2 := (hO 1 rfl).trans g1_1
   have g2_2 := (hO 2 rfl).trans g2_1
   have g9_2 : a2.tmps[9]? = some (.bool (greatV r)) := hG 1 _ 9 rfl rfl
   have hM2 : Mem (boxC b1_0 (recCells r (.slice al r.cmd.legs.length cl) (.slice at1 r.cmd.taxes.length ct)) :: R) w2 := hM
   clear hM hG hO hd
   clear hz1 hd1 hM1 g1_1 g2_1
   refine then_n ?_
   cases hc1 : greatV r
   ·
    refine cond_f (g9_2.trans (by rw [hc1])) ?_
    obtain ⟨⟨hgn, hgl, hgt⟩, hgc⟩ := not_great hc1
    have hw := hi.w (by omega) (by omega)
    refine wp_skip ?_
    refine then_n ?_
    refine wp_seq ?_
    refine region_seq 69 (fun zz e => (#[.agg (recCells r (.slice al r.cmd.legs.length cl) (.slice at1 r.cmd.taxes.length ct)), .tuple #[(e 0).2, .int .i64 (putE r)], .tuple #[(e 0).2, .int .i64 (putE r)], (e 0).2, .int .i64 (putE r), (e 0).2, .int .i64 (putE r)] : Array Value).getD zz undef) (fun k e w => Mem (List.getD [boxC b1_0 (recCells r (.slice al r.cmd.legs.length cl) (.slice at1 r.cmd.taxes.length ct)) :: R, rowC 5 1 (e 0).2 (putB r).length ((putB r).map (.int .u8)) :: boxC b1_0 (recCells r (.slice al r.cmd.legs.length cl) (.slice at1 r.cmd.taxes.length ct)) :: R] k []) w) (fun _ => (0, undef)) [1] [0, 0, 1, 1, 1, 1, 1] (fun _ _ => false) hz2 (by kernel_rfl) (by kernel_rfl) (by kernel_rfl) ?_ (show Mem _ _ from hM2) ?_ ?_
    ·
     exact ⟨fun _ _ _ => rfl, fun e e' h => congrArg (fun x : Rv => (.tuple #[x.2, .int .i64 (putE r)] : Value)) (h 0 (by decide)), fun e e' h => congrArg (fun x : Rv => (.tuple #[x.2, .int .i64 (putE r)] : Value)) (h 0 (by decide)), fun e e' h => congrArg (fun x : Rv => (x.2 : Value)) (h 0 (by decide)), fun _ _ _ => rfl, fun e e' h => congrArg (fun x : Rv => (x.2 : Value)) (h 0 (by decide)), fun _ _ _ => rfl, trivial⟩
    ·
     refine ⟨?_, ?_, ?_, ?_, ?_, ?_, ?_, trivial⟩
     ·
      intro zk e w ρ zhl zhh hO E
      obtain rfl : zk = 0 := Nat.le_antisymm zhh zhl
      have e1 := E.o 1 _ rfl g1_2
      have hM : Mem _ w := hO
      refine (if_pos rfl).mpr ?_
      exact res_ok (x_loads rfl (e1) (by kernel_rfl) (load_part (hM.box 0 rfl) [.int .u8 r.kind, .int .u8 r.cmd.kind, .int .u8 r.cmd.tick.c, .int .u64 r.cmd.tick.r, .int .u8 r.cmd.at_, .string r.cmd.name, .slice al r.cmd.legs.length cl, .int .i64 r.cmd.fare, .slice at1 r.cmd.taxes.length ct, .int .i64 r.cmd.penalty, .int .i64 r.cmd.amount, .int .u8 r.frm, .int .u64 r.number, .int .u8 r.msg.kind, .int .u8 r.msg.tick.c, .int .u64 r.msg.tick.r, .int .u8 r.msg.at_, .int .u8 r.msg.leg.c, .int .u16 r.msg.leg.f, .int .u32 r.msg.leg.x, .int .i64 r.msg.value, .int .u8 r.msg.status, .int .u32 r.msg.nonce, .int .i64 r.msg.amount, .int .i64 r.msg.code] rfl (Nat.le_of_ble_eq_true rfl) rfl)) (goes_still rfl rfl hM)
     ·
      intro zk e w ρ zhl zhh hO E
      obtain rfl : zk = 0 := Nat.le_antisymm zhh zhl
      have e11 : ρ (.tmp 11) = .agg (recCells r (.slice al r.cmd.legs.length cl) (.slice at1 r.cmd.taxes.length ct)) := E.d 0 _ 11 rfl rfl rfl
      have hM : Mem _ w := hO
      refine (if_pos rfl).mpr ?_
      refine res_in (x_call (args := #[.agg (recCells r (.slice al r.cmd.legs.length cl) (.slice at1 r.cmd.taxes.length ct))]) rfl rfl (E.f _) (by simp [e11]) (by kernel_rfl)) ?_
      refine (put_at r al at1 cl ct _ _ hM (hl.more) (ht.more) hw).mono ?_
      rintro e' w' ⟨v', rfl, hm⟩
      exact ⟨_, rfl, goes_tick rfl (0, v') rfl hm⟩
     ·
      intro zk e w ρ zhl zhh hO E
      obtain rfl : zk = 1 := Nat.le_antisymm zhh zhl
      have e12 := E.d 1 _ 12 rfl rfl rfl
      have hM : Mem _ w := hO
      refine (if_pos rfl).mpr ?_
      exact res_ok (x_move rfl (e12)) (goes_still rfl rfl hM)
     ·
      intro zk e w ρ zhl zhh hO E
      obtain rfl : zk = 1 := Nat.le_antisymm zhh zhl
      have e10 : ρ (.tmp 10) = .tuple #[(e 0).2, .int .i64 (putE r)] := E.d 2 _ 10 rfl rfl rfl
      have hM : Mem _ w := hO
      refine (if_pos rfl).mpr ?_
      exact res_ok (x_extract rfl (e10) rfl) (goes_still rfl rfl hM)
     ·
      intro zk e w ρ zhl zhh hO E
      obtain rfl : zk = 1 := Nat.le_antisymm zhh zhl
      have e10 : ρ (.tmp 10) = .tuple #[(e 0).2, .int .i64 (putE r)] := E.d 2 _ 10 rfl rfl rfl
      have hM : Mem _ w := hO
      refine (if_pos rfl).mpr ?_
      exact res_ok (x_extract rfl (e10) rfl) (goes_still rfl rfl hM)
     ·
      intro zk e w ρ zhl zhh hO E
      obtain rfl : zk = 1 := Nat.le_antisymm zhh zhl
      have e13 := E.d 3 _ 13 rfl rfl rfl
      have hM : Mem _ w := hO
      refine (if_pos rfl).mpr ?_
      exact res_ok (x_assign rfl (e13)) (goes_still rfl rfl hM)
     ·
      intro zk e w ρ zhl zhh hO E
      obtain rfl : zk = 1 := Nat.le_antisymm zhh zhl
      have e14 := E.d 4 _ 14 rfl rfl rfl
      have hM : Mem _ w := hO
      refine (if_pos rfl).mpr ?_
      exact res_ok (x_assign rfl (e14)) (goes_still rfl rfl hM)
    ·
     intro e a3 w3 hz3 hd hG hO hM
     have hd3 := hd.trans hd2
     have g1_3 := (hO 1 rfl).trans g1_2
     have g2_3 := (hO 2 rfl).trans g2_2
     have g3_3 : a3.tmps[3]? = some ((e 0).2) := hG 5 _ 3 rfl rfl
     have g4_3 : a3.tmps[4]? = some (.int .i64 (putE r)) := hG 6 _ 4 rfl rfl
     have hM3 : Mem (rowC 5 1 (e 0).2 (putB r).length ((putB r).map (.int .u8)) :: boxC b1_0 (recCells r (.slice al r.cmd.legs.length cl) (.slice at1 r.cmd.taxes.length ct)) :: R) w3 := hM
     clear hM hG hO hd
     clear hz2 hd2 hM2 g1_2 g2_2 g9_2
     generalize (e 0).2 = v3_0 at *
     obtain ⟨a2, c2, rfl, -, -⟩ := row_slice hM3 0 rfl
     refine then_n ?_
     refine wp_seq ?_
     refine wp_seq ?_
     refine region_seq 69 (fun zz e => (#[.int .i64 (putE r), .bool (!decide ((putE r) = 0))] : Array Value).getD zz undef) (fun k e w => Mem (List.getD [rowC 5 1 (.slice a2 ((putB r).length) c2) (putB r).length ((putB r).map (.int .u8)) :: boxC b1_0 (recCells r (.slice al r.cmd.legs.length cl) (.slice at1 r.cmd.taxes.length ct)) :: R] k []) w) (fun _ => (0, undef)) [] [0, 0] (fun _ _ => false) hz3 (by kernel_rfl) (by kernel_rfl) (by kernel_rfl) ?_ (show Mem _ _ from hM3) ?_ ?_
     ·
      exact ⟨fun _ _ _ => rfl, fun _ _ _ => rfl, trivial⟩
     ·
      refine ⟨?_, ?_, trivial⟩
      ·
       intro zk e w ρ zhl zhh hO E
       obtain rfl : zk = 0 := Nat.le_antisymm zhh zhl
       have e4 := E.o 4 _ rfl g4_3
       have hM : Mem _ w := hO
       refine (if_pos rfl).mpr ?_
       exact res_ok (x_move rfl (e4)) (goes_still rfl rfl hM)
      ·
       intro zk e w ρ zhl zhh hO E
       obtain rfl : zk = 0 := Nat.le_antisymm zhh zhl
       have e15 := E.d 0 _ 15 rfl rfl rfl
       have hM : Mem _ w := hO
       refine (if_pos rfl).mpr ?_
       exact res_ok (x_neq rfl (e15) (E.c _) rfl) (goes_still rfl rfl hM)
     ·
      intro e a4 w4 hz4 hd hG hO hM
      have hd4 := hd.trans hd3
      have g1_4 := (hO 1 rfl).trans g1_3
      have g2_4 := (hO 2 rfl).trans g2_3
      have g3_4 := (hO 3 rfl).trans g3_3
      have g16_4 : a4.tmps[16]? = some (.bool (!decide ((putE r) = 0))) := hG 1 _ 16 rfl rfl
      have hM4 : Mem (rowC 5 1 (.slice a2 ((putB r).length) c2) (putB r).length ((putB r).map (.int .u8)) :: boxC b1_0 (recCells r (.slice al r.cmd.legs.length cl) (.slice at1 r.cmd.taxes.length ct)) :: R) w4 := hM
      clear hM hG hO hd
      clear hz3 hd3 hM3 g1_3 g2_3 g3_3 g4_3
      refine then_n ?_
      by_cases hE : (putE r) = 0
      ·
       refine cond_f (g16_4.trans (by rw [decide_eq_true hE]; rfl)) ?_
       refine wp_skip ?_
       refine then_n ?_
       refine wp_seq ?_
       refine region_seq 69 (fun zz e => (#[.int .i64 10] : Array Value).getD zz undef) (fun k e w => Mem (List.getD [rowC 5 1 (.slice a2 ((putB r).length) c2) (putB r).length ((putB r).map (.int .u8)) :: boxC b1_0 (recCells r (.slice al r.cmd.legs.length cl) (.slice at1 r.cmd.taxes.length ct)) :: R] k []) w) (fun _ => (0, undef)) [] [0] (fun _ _ => false) hz4 (by kernel_rfl) (by kernel_rfl) (by kernel_rfl) ?_ (show Mem _ _ from hM4) ?_ ?_
       ·
        exact ⟨fun _ _ _ => rfl, trivial⟩
       ·
        refine ⟨?_, trivial⟩
        ·
         intro zk e w ρ zhl zhh hO E
         obtain rfl : zk = 0 := Nat.le_antisymm zhh zhl
         have hM : Mem _ w := hO
         refine (if_pos rfl).mpr ?_
         exact res_ok (x_assign rfl (E.c _)) (goes_still rfl rfl hM)
       ·
        intro e a5 w5 hz5 hd hG hO hM
        have hd5 := hd.trans hd4
        have g1_5 := (hO 1 rfl).trans g1_4
        have g2_5 := (hO 2 rfl).trans g2_4
        have g3_5 := (hO 3 rfl).trans g3_4
        have g5_5 : a5.tmps[5]? = some (.int .i64 10) := hG 0 _ 5 rfl rfl
        have hM5 : Mem (rowC 5 1 (.slice a2 ((putB r).length) c2) (putB r).length ((putB r).map (.int .u8)) :: boxC b1_0 (recCells r (.slice al r.cmd.legs.length cl) (.slice at1 r.cmd.taxes.length ct)) :: R) w5 := hM
        clear hM hG hO hd
        clear hz4 hd4 hM4 g1_4 g2_4 g3_4 g16_4
        refine then_n ?_
        refine wp_seq ?_
        refine wp_seq ?_
        refine region_seq 69 (fun zz e => (#[.pointer (some ⟨b1_0, 0, none⟩), .int .u8 r.kind, .bool (decide (r.kind = 2))] : Array Value).getD zz undef) (fun k e w => Mem (List.getD [rowC 5 1 (.slice a2 ((putB r).length) c2) (putB r).length ((putB r).map (.int .u8)) :: boxC b1_0 (recCells r (.slice al r.cmd.legs.length cl) (.slice at1 r.cmd.taxes.length ct)) :: R] k []) w) (fun _ => (0, undef)) [] [0, 0, 0] (fun _ _ => false) hz5 (by kernel_rfl) (by kernel_rfl) (by kernel_rfl) ?_ (show Mem _ _ from hM5) ?_ ?_
        ·
         exact ⟨fun _ _ _ => rfl, fun _ _ _ => rfl, fun _ _ _ => rfl, trivial⟩
        ·
         refine ⟨?_, ?_, ?_, trivial⟩
         ·
          intro zk e w ρ zhl zhh hO E
          obtain rfl : zk = 0 := Nat.le_antisymm zhh zhl
          have e1 := E.o 1 _ rfl g1_5
          have hM : Mem _ w := hO
          refine (if_pos rfl).mpr ?_
          exact res_ok (x_fieldAddr (off := 0) rfl (e1) (by kernel_rfl) rfl) (goes_still rfl rfl hM)
         ·
          intro zk e w ρ zhl zhh hO E
          obtain rfl : zk = 0 := Nat.le_antisymm zhh zhl
          have e23 := E.d 0 _ 23 rfl rfl rfl
          have hM : Mem _ w := hO
          refine (if_pos rfl).mpr ?_
          exact res_ok (x_load rfl (e23) (by kernel_rfl) ((hM.box 1 rfl).cell 0 rfl)) (goes_still rfl rfl hM)
         ·
          intro zk e w ρ zhl zhh hO E
          obtain rfl : zk = 0 := Nat.le_antisymm zhh zhl
          have e24 := E.d 1 _ 24 rfl rfl rfl
          have hM : Mem _ w := hO
          refine (if_pos rfl).mpr ?_
          exact res_ok (x_eql rfl (e24) (E.c _) rfl) (goes_still rfl rfl hM)
        ·
         intro e a6 w6 hz6 hd hG hO hM
         have hd6 := hd.trans hd5
         have g1_6 := (hO 1 rfl).trans g1_5
         have g2_6 := (hO 2 rfl).trans g2_5
         have g3_6 := (hO 3 rfl).trans g3_5
         have g5_6 := (hO 5 rfl).trans g5_5
         have g25_6 : a6.tmps[25]? = some (.bool (decide (r.kind = 2))) := hG 2 _ 25 rfl rfl
         have hM6 : Mem (rowC 5 1 (.slice a2 ((putB r).length) c2) (putB r).length ((putB r).map (.int .u8)) :: boxC b1_0 (recCells r (.slice al r.cmd.legs.length cl) (.slice at1 r.cmd.taxes.length ct)) :: R) w6 := hM
         clear hM hG hO hd
         clear hz5 hd5 hM5 g1_5 g2_5 g3_5 g5_5
         refine then_n ?_
         by_cases hk2 : r.kind = 2
         ·
          refine cond_t (g25_6.trans (by rw [decide_eq_true hk2])) ?_
          refine region_seq 69 (fun zz e => (#[.int .i64 57] : Array Value).getD zz undef) (fun k e w => Mem (List.getD [rowC 5 1 (.slice a2 ((putB r).length) c2) (putB r).length ((putB r).map (.int .u8)) :: boxC b1_0 (recCells r (.slice al r.cmd.legs.length cl) (.slice at1 r.cmd.taxes.length ct)) :: R] k []) w) (fun _ => (0, undef)) [] [0] (fun _ _ => false) hz6 (by kernel_rfl) (by kernel_rfl) (by kernel_rfl) ?_ (show Mem _ _ from hM6) ?_ ?_
          ·
           exact ⟨fun _ _ _ => rfl, trivial⟩
          ·
           refine ⟨?_, trivial⟩
           ·
            intro zk e w ρ zhl zhh hO E
            obtain rfl : zk = 0 := Nat.le_antisymm zhh zhl
            have hM : Mem _ w := hO
            refine (if_pos rfl).mpr ?_
            exact res_ok (x_assign rfl (E.c _)) (goes_still rfl rfl hM)
          ·
           intro e a7 w7 hz7 hd hG hO hM
           have hd7 := hd.trans hd6
           have g1_7 := (hO 1 rfl).trans g1_6
           have g2_7 := (hO 2 rfl).trans g2_6
           have g3_7 := (hO 3 rfl).trans g3_6
           have g5_7 : a7.tmps[5]? = some (.int .i64 57) := hG 0 _ 5 rfl rfl
           have hM7 : Mem (rowC 5 1 (.slice a2 ((putB r).length) c2) (putB r).length ((putB r).map (.int .u8)) :: boxC b1_0 (recCells r (.slice al r.cmd.legs.length cl) (.slice at1 r.cmd.taxes.length ct)) :: R) w7 := hM
           clear hM hG hO hd
           clear hz6 hd6 hM6 g1_6 g2_6 g3_6 g5_6 g25_6
           refine then_n ?_
           refine wp_seq ?_
           refine wp_seq ?_
           refine region_seq 69 (fun zz e => (#[.pointer (some ⟨b1_0, 0, none⟩), .int .u8 r.kind, .bool (decide (r.kind = 1))] : Array Value).getD zz undef) (fun k e w => Mem (List.getD [rowC 5 1 (.slice a2 ((putB r).length) c2) (putB r).length ((putB r).map (.int .u8)) :: boxC b1_0 (recCells r (.slice al r.cmd.legs.length cl) (.slice at1 r.cmd.taxes.length ct)) :: R] k []) w) (fun _ => (0, undef)) [] [0, 0, 0] (fun _ _ => false) hz7 (by kernel_rfl) (by kernel_rfl) (by kernel_rfl) ?_ (show Mem _ _ from hM7) ?_ ?_
           ·
            exact ⟨fun _ _ _ => rfl, fun _ _ _ => rfl, fun _ _ _ => rfl, trivial⟩
           ·
            refine ⟨?_, ?_, ?_, trivial⟩
            ·
             intro zk e w ρ zhl zhh hO E
             obtain rfl : zk = 0 := Nat.le_antisymm zhh zhl
             have e1 := E.o 1 _ rfl g1_7
             have hM : Mem _ w := hO
             refine (if_pos rfl).mpr ?_
             exact res_ok (x_fieldAddr (off := 0) rfl (e1) (by kernel_rfl) rfl) (goes_still rfl rfl hM)
            ·
             intro zk e w ρ zhl zhh hO E
             obtain rfl : zk = 0 := Nat.le_antisymm zhh zhl
             have e26 := E.d 0 _ 26 rfl rfl rfl
             have hM : Mem _ w := hO
             refine (if_pos rfl).mpr ?_
             exact res_ok (x_load rfl (e26) (by kernel_rfl) ((hM.box 1 rfl).cell 0 rfl)) (goes_still rfl rfl hM)
            ·
             intro zk e w ρ zhl zhh hO E
             obtain rfl : zk = 0 := Nat.le_antisymm zhh zhl
             have e27 := E.d 1 _ 27 rfl rfl rfl
             have hM : Mem _ w := hO
             refine (if_pos rfl).mpr ?_
             exact res_ok (x_eql rfl (e27) (E.c _) rfl) (goes_still rfl rfl hM)
           ·
            intro e a8 w8 hz8 hd hG hO hM
            have hd8 := hd.trans hd7
            have g1_8 := (hO 1 rfl).trans g1_7
            have g2_8 := (hO 2 rfl).trans g2_7
            have g3_8 := (hO 3 rfl).trans g3_7
            have g5_8 := (hO 5 rfl).trans g5_7
            have g28_8 : a8.tmps[28]? = some (.bool (decide (r.kind = 1))) := hG 2 _ 28 rfl rfl
            have hM8 : Mem (rowC 5 1 (.slice a2 ((putB r).length) c2) (putB r).length ((putB r).map (.int .u8)) :: boxC b1_0 (recCells r (.slice al r.cmd.legs.length cl) (.slice at1 r.cmd.taxes.length ct)) :: R) w8 := hM
            clear hM hG hO hd
            clear hz7 hd7 hM7 g1_7 g2_7 g3_7 g5_7
            refine then_n ?_
            by_cases hk1 : r.kind = 1
            ·
             refine cond_t (g28_8.trans (by rw [decide_eq_true hk1])) ?_
             exact absurd hk1 (by omega)
            ·
             refine cond_f (g28_8.trans (by rw [decide_eq_false hk1])) ?_
             refine wp_skip ?_
             refine then_n ?_
             refine wp_seq ?_
             have hsz : ((putB r).length : Int) = 57 := by rw [putB_eq hE hi, recBy_len]; show sizeV r = 57; unfold sizeV; rw [if_neg (by omega), if_pos hk2]
             refine region_seq 69 (fun zz e => (#[.slice a2 ((putB r).length) c2, .int .i64 ((putB r).length : Int), .int .i64 57, .bool true, .bool true, .bool true, .bool true, .bool true] : Array Value).getD zz undef) (fun k e w => Mem (List.getD [rowC 5 1 (.slice a2 ((putB r).length) c2) (putB r).length ((putB r).map (.int .u8)) :: boxC b1_0 (recCells r (.slice al r.cmd.legs.length cl) (.slice at1 r.cmd.taxes.length ct)) :: R] k []) w) (fun _ => (0, undef)) [] [0, 0, 0, 0, 0, 0, 0, 0] (fun _ _ => false) hz8 (by kernel_rfl) (by kernel_rfl) (by kernel_rfl) ?_ (show Mem _ _ from hM8) ?_ ?_
             ·
              exact ⟨fun _ _ _ => rfl, fun _ _ _ => rfl, fun _ _ _ => rfl, fun _ _ _ => rfl, fun _ _ _ => rfl, fun _ _ _ => rfl, fun _ _ _ => rfl, fun _ _ _ => rfl, trivial⟩
             ·
              refine ⟨?_, ?_, ?_, ?_, ?_, ?_, ?_, ?_, trivial⟩
              ·
               intro zk e w ρ zhl zhh hO E
               obtain rfl : zk = 0 := Nat.le_antisymm zhh zhl
               have e3 := E.o 3 _ rfl g3_8
               have hM : Mem _ w := hO
               refine (if_pos rfl).mpr ?_
               exact res_ok (x_move rfl (e3)) (goes_still rfl rfl hM)
              ·
               intro zk e w ρ zhl zhh hO E
               obtain rfl : zk = 0 := Nat.le_antisymm zhh zhl
               have e62 : ρ (.tmp 62) = .slice a2 ((putB r).length) c2 := E.d 0 _ 62 rfl rfl rfl
               have hM : Mem _ w := hO
               refine (if_pos rfl).mpr ?_
               exact res_ok (x_len (n := 1) rfl rfl rfl rfl (e62) (by kernel_rfl)) (goes_still rfl rfl hM)
              ·
               intro zk e w ρ zhl zhh hO E
               obtain rfl : zk = 0 := Nat.le_antisymm zhh zhl
               have e5 := E.o 5 _ rfl g5_8
               have hM : Mem _ w := hO
               refine (if_pos rfl).mpr ?_
               exact res_ok (x_move rfl (e5)) (goes_still rfl rfl hM)
              ·
               intro zk e w ρ zhl zhh hO E
               obtain rfl : zk = 0 := Nat.le_antisymm zhh zhl
               have e63 := E.d 1 _ 63 rfl rfl rfl
               have e64 := E.d 2 _ 64 rfl rfl rfl
               have hM : Mem _ w := hO
               refine (if_pos rfl).mpr ?_
               exact res_ok (x_eql rfl (e63) (e64) (decide_eq_true hsz)) (goes_still rfl rfl hM)
              ·
               intro zk e w ρ zhl zhh hO E
               obtain rfl : zk = 0 := Nat.le_antisymm zhh zhl
               have e65 := E.d 3 _ 65 rfl rfl rfl
               have hM : Mem _ w := hO
               refine (if_pos rfl).mpr ?_
               exact res_ok (x_move rfl (e65)) (goes_still rfl rfl hM)
              ·
               intro zk e w ρ zhl zhh hO E
               obtain rfl : zk = 0 := Nat.le_antisymm zhh zhl
               have hM : Mem _ w := hO
               refine (if_pos rfl).mpr ?_
               refine res_in (x_call (args := #[]) rfl rfl (E.f _) (by simp) (by kernel_rfl)) ?_
               refine (puts_at _ _ hM).mono ?_
               rintro e' w' ⟨rfl, hm⟩
               exact ⟨_, rfl, goes_still rfl rfl (hm)⟩
              ·
               intro zk e w ρ zhl zhh hO E
               obtain rfl : zk = 0 := Nat.le_antisymm zhh zhl
               have e66 : ρ (.tmp 66) = .bool true := E.d 4 _ 66 rfl rfl rfl
               have e67 : ρ (.tmp 67) = .bool true := E.d 5 _ 67 rfl rfl rfl
               have hM : Mem _ w := hO
               refine (if_pos rfl).mpr ?_
               exact res_ok (x_pick rfl (e66) (e67)) (goes_still rfl rfl hM)
              ·
               intro zk e w ρ zhl zhh hO E
               obtain rfl : zk = 0 := Nat.le_antisymm zhh zhl
               have e68 := E.d 6 _ 68 rfl rfl rfl
               have hM : Mem _ w := hO
               refine (if_pos rfl).mpr ?_
               exact res_ok (x_assign rfl (e68)) (goes_still rfl rfl hM)
             ·
              intro e a9 w9 hz9 hd hG hO hM
              have hd9 := hd.trans hd8
              have g2_9 : a9.tmps[2]? = some (.bool true) := hG 7 _ 2 rfl rfl
              have hM9 : Mem (rowC 5 1 (.slice a2 ((putB r).length) c2) (putB r).length ((putB r).map (.int .u8)) :: boxC b1_0 (recCells r (.slice al r.cmd.legs.length cl) (.slice at1 r.cmd.taxes.length ct)) :: R) w9 := hM
              clear hM hG hO hd
              clear hz8 hd8 hM8 g1_8 g2_8 g3_8 g5_8 g28_8
              refine then_n ?_
              refine wp_ret ?_
              refine ret_1 Try.results9 hd9 g2_9 ?_
              exact ⟨rfl, hM9.tail.tail⟩
         ·
          refine cond_f (g25_6.trans (by rw [decide_eq_false hk2])) ?_
          refine wp_skip ?_
          refine then_n ?_
          refine wp_seq ?_
          refine wp_seq ?_
          refine region_seq 69 (fun zz e => (#[.pointer (some ⟨b1_0, 0, none⟩), .int .u8 r.kind, .bool (decide (r.kind = 1))] : Array Value).getD zz undef) (fun k e w => Mem (List.getD [rowC 5 1 (.slice a2 ((putB r).length) c2) (putB r).length ((putB r).map (.int .u8)) :: boxC b1_0 (recCells r (.slice al r.cmd.legs.length cl) (.slice at1 r.cmd.taxes.length ct)) :: R] k []) w) (fun _ => (0, undef)) [] [0, 0, 0] (fun _ _ => false) hz6 (by kernel_rfl) (by kernel_rfl) (by kernel_rfl) ?_ (show Mem _ _ from hM6) ?_ ?_
          ·
           exact ⟨fun _ _ _ => rfl, fun _ _ _ => rfl, fun _ _ _ => rfl, trivial⟩
          ·
           refine ⟨?_, ?_, ?_, trivial⟩
           ·
            intro zk e w ρ zhl zhh hO E
            obtain rfl : zk = 0 := Nat.le_antisymm zhh zhl
            have e1 := E.o 1 _ rfl g1_6
            have hM : Mem _ w := hO
            refine (if_pos rfl).mpr ?_
            exact res_ok (x_fieldAddr (off := 0) rfl (e1) (by kernel_rfl) rfl) (goes_still rfl rfl hM)
           ·
            intro zk e w ρ zhl zhh hO E
            obtain rfl : zk = 0 := Nat.le_antisymm zhh zhl
            have e26 := E.d 0 _ 26 rfl rfl rfl
            have hM : Mem _ w := hO
            refine (if_pos rfl).mpr ?_
            exact res_ok (x_load rfl (e26) (by kernel_rfl) ((hM.box 1 rfl).cell 0 rfl)) (goes_still rfl rfl hM)
           ·
            intro zk e w ρ zhl zhh hO E
            obtain rfl : zk = 0 := Nat.le_antisymm zhh zhl
            have e27 := E.d 1 _ 27 rfl rfl rfl
            have hM : Mem _ w := hO
            refine (if_pos rfl).mpr ?_
            exact res_ok (x_eql rfl (e27) (E.c _) rfl) (goes_still rfl rfl hM)
          ·
           intro e a10 w10 hz10 hd hG hO hM
           have hd10 := hd.trans hd6
           have g1_10 := (hO 1 rfl).trans g1_6
           have g2_10 := (hO 2 rfl).trans g2_6
           have g3_10 := (hO 3 rfl).trans g3_6
           have g5_10 := (hO 5 rfl).trans g5_6
           have g28_10 : a10.tmps[28]? = some (.bool (decide (r.kind = 1))) := hG 2 _ 28 rfl rfl
           have hM10 : Mem (rowC 5 1 (.slice a2 ((putB r).length) c2) (putB r).length ((putB r).map (.int .u8)) :: boxC b1_0 (recCells r (.slice al r.cmd.legs.length cl) (.slice at1 r.cmd.taxes.length ct)) :: R) w10 := hM
           clear hM hG hO hd
           clear hz6 hd6 hM6 g1_6 g2_6 g3_6 g5_6 g25_6
           refine then_n ?_
           by_cases hk1 : r.kind = 1
           ·
            refine cond_t (g28_10.trans (by rw [decide_eq_true hk1])) ?_
            refine wp_seq ?_
            refine region_seq 69 (fun zz e => (#[.pointer (some ⟨b1_0, 1, none⟩), .pointer (some ⟨b1_0, 5, none⟩), .agg #[.string r.cmd.name, .slice al r.cmd.legs.length cl, .int .i64 r.cmd.fare, .slice at1 r.cmd.taxes.length ct, .int .i64 r.cmd.penalty], .pointer (some ⟨(e 0).1, 0, none⟩), undef] : Array Value).getD zz undef) (fun k e w => Mem (List.getD [rowC 5 1 (.slice a2 ((putB r).length) c2) (putB r).length ((putB r).map (.int .u8)) :: boxC b1_0 (recCells r (.slice al r.cmd.legs.length cl) (.slice at1 r.cmd.taxes.length ct)) :: R, boxC ((e 0).1) #[.string ByteArray.empty, .slice none 0 0, .int .i64 0, .slice none 0 0, .int .i64 0] :: rowC 5 1 (.slice a2 ((putB r).length) c2) (putB r).length ((putB r).map (.int .u8)) :: boxC b1_0 (recCells r (.slice al r.cmd.legs.length cl) (.slice at1 r.cmd.taxes.length ct)) :: R, boxC ((e 0).1) #[.string r.cmd.name, .slice al r.cmd.legs.length cl, .int .i64 r.cmd.fare, .slice at1 r.cmd.taxes.length ct, .int .i64 r.cmd.penalty] :: rowC 5 1 (.slice a2 ((putB r).length) c2) (putB r).length ((putB r).map (.int .u8)) :: boxC b1_0 (recCells r (.slice al r.cmd.legs.length cl) (.slice at1 r.cmd.taxes.length ct)) :: R] k []) w) (fun _ => (0, undef)) [3, 4] [0, 0, 0, 0, 1] (fun _ _ => false) hz10 (by kernel_rfl) (by kernel_rfl) (by kernel_rfl) ?_ (show Mem _ _ from hM10) ?_ ?_
            ·
             exact ⟨fun _ _ _ => rfl, fun _ _ _ => rfl, fun _ _ _ => rfl, fun e e' h => congrArg (fun x : Rv => (.pointer (some ⟨x.1, 0, none⟩) : Value)) (h 0 (by decide)), fun _ _ _ => rfl, trivial⟩
            ·
             refine ⟨?_, ?_, ?_, ?_, ?_, trivial⟩
             ·
              intro zk e w ρ zhl zhh hO E
              obtain rfl : zk = 0 := Nat.le_antisymm zhh zhl
              have e1 := E.o 1 _ rfl g1_10
              have hM : Mem _ w := hO
              refine (if_pos rfl).mpr ?_
              exact res_ok (x_fieldAddr (off := 1) rfl (e1) (by kernel_rfl) rfl) (goes_still rfl rfl hM)
             ·
              intro zk e w ρ zhl zhh hO E
              obtain rfl : zk = 0 := Nat.le_antisymm zhh zhl
              have e29 := E.d 0 _ 29 rfl rfl rfl
              have hM : Mem _ w := hO
              refine (if_pos rfl).mpr ?_
              exact res_ok (x_fieldAddr (off := 4) rfl (e29) (by kernel_rfl) rfl) (goes_still rfl rfl hM)
             ·
              intro zk e w ρ zhl zhh hO E
              obtain rfl : zk = 0 := Nat.le_antisymm zhh zhl
              have e30 := E.d 1 _ 30 rfl rfl rfl
              have hM : Mem _ w := hO
              refine (if_pos rfl).mpr ?_
              exact res_ok (x_loads rfl (e30) (by kernel_rfl) (load_part (hM.box 1 rfl) [.string r.cmd.name, .slice al r.cmd.legs.length cl, .int .i64 r.cmd.fare, .slice at1 r.cmd.taxes.length ct, .int .i64 r.cmd.penalty] rfl (Nat.le_of_ble_eq_true rfl) rfl)) (goes_still rfl rfl hM)
             ·
              intro zk e w ρ zhl zhh hO E
              obtain rfl : zk = 0 := Nat.le_antisymm zhh zhl
              have hM : Mem _ w := hO
              refine (if_pos rfl).mpr ?_
              exact res_ok (x_alloc (z := .agg #[.string ByteArray.empty, .slice none 0 0, .int .i64 0, .slice none 0 0, .int .i64 0]) rfl (by kernel_rfl)) (goes_tick rfl (w.heap.size, undef) rfl (hM.alloc _ _))
             ·
              intro zk e w ρ zhl zhh hO E
              obtain rfl : zk = 1 := Nat.le_antisymm zhh zhl
              have e6 := E.d 3 _ 6 rfl rfl rfl
              have e31 := E.d 2 _ 31 rfl rfl rfl
              have hM : Mem _ w := hO
              refine (if_pos rfl).mpr ?_
              obtain ⟨w', hr, hm⟩ := Mem.store (P := Try.prog) hM 0 rfl 28 0 (.agg #[.string r.cmd.name, .slice al r.cmd.legs.length cl, .int .i64 r.cmd.fare, .slice at1 r.cmd.taxes.length ct, .int .i64 r.cmd.penalty]) [.string r.cmd.name, .slice al r.cmd.legs.length cl, .int .i64 r.cmd.fare, .slice at1 r.cmd.taxes.length ct, .int .i64 r.cmd.penalty] rfl (by kernel_rfl) (Nat.le_of_ble_eq_true rfl) (by rfl)
              exact res_st (x_store rfl (e6) (e31) hr) (goes_tick rfl (0, undef) rfl hm)
            ·
             intro e a11 w11 hz11 hd hG hO hM
             have hd11 := hd.trans hd10
             have g2_11 := (hO 2 rfl).trans g2_10
             have g3_11 := (hO 3 rfl).trans g3_10
             have g5_11 := (hO 5 rfl).trans g5_10
             have g6_11 : a11.tmps[6]? = some (.pointer (some ⟨(e 0).1, 0, none⟩)) := hG 3 _ 6 rfl rfl
             have hM11 : Mem (boxC ((e 0).1) #[.string r.cmd.name, .slice al r.cmd.legs.length cl, .int .i64 r.cmd.fare, .slice at1 r.cmd.taxes.length ct, .int .i64 r.cmd.penalty] :: rowC 5 1 (.slice a2 ((putB r).length) c2) (putB r).length ((putB r).map (.int .u8)) :: boxC b1_0 (recCells r (.slice al r.cmd.legs.length cl) (.slice at1 r.cmd.taxes.length ct)) :: R) w11 := hM
             clear hM hG hO hd
             clear hz10 hd10 hM10 g1_10 g2_10 g3_10 g5_10 g28_10
             generalize (e 0).1 = b11_0 at *
             refine then_n ?_
             refine wp_seq ?_
             refine region_seq 69 (fun zz e => (#[.pointer (some ⟨b11_0, 0, none⟩), .string r.cmd.name, .int .i64 (r.cmd.name.size : Int), .int .i64 (39 + (r.cmd.name.size : Int)), .pointer (some ⟨b11_0, 1, none⟩), .slice al r.cmd.legs.length cl, .int .i64 (r.cmd.legs.length : Int), .int .i64 (7 * (r.cmd.legs.length : Int)), .int .i64 ((39 + (r.cmd.name.size : Int)) + (7 * (r.cmd.legs.length : Int))), .pointer (some ⟨b11_0, 3, none⟩), .slice at1 r.cmd.taxes.length ct, .int .i64 (r.cmd.taxes.length : Int), .int .i64 (9 * (r.cmd.taxes.length : Int)), .int .i64 (((39 + (r.cmd.name.size : Int)) + (7 * (r.cmd.legs.length : Int))) + (9 * (r.cmd.taxes.length : Int))), .int .i64 (((39 + (r.cmd.name.size : Int)) + (7 * (r.cmd.legs.length : Int))) + (9 * (r.cmd.taxes.length : Int)))] : Array Value).getD zz undef) (fun k e w => Mem (List.getD [boxC b11_0 #[.string r.cmd.name, .slice al r.cmd.legs.length cl, .int .i64 r.cmd.fare, .slice at1 r.cmd.taxes.length ct, .int .i64 r.cmd.penalty] :: rowC 5 1 (.slice a2 ((putB r).length) c2) (putB r).length ((putB r).map (.int .u8)) :: boxC b1_0 (recCells r (.slice al r.cmd.legs.length cl) (.slice at1 r.cmd.taxes.length ct)) :: R] k []) w) (fun _ => (0, undef)) [] [0, 0, 0, 0, 0, 0, 0, 0, 0, 0, 0, 0, 0, 0, 0] (fun _ _ => false) hz11 (by kernel_rfl) (by kernel_rfl) (by kernel_rfl) ?_ (show Mem _ _ from hM11) ?_ ?_
             ·
              exact ⟨fun _ _ _ => rfl, fun _ _ _ => rfl, fun _ _ _ => rfl, fun _ _ _ => rfl, fun _ _ _ => rfl, fun _ _ _ => rfl, fun _ _ _ => rfl, fun _ _ _ => rfl, fun _ _ _ => rfl, fun _ _ _ => rfl, fun _ _ _ => rfl, fun _ _ _ => rfl, fun _ _ _ => rfl, fun _ _ _ => rfl, fun _ _ _ => rfl, trivial⟩
             ·
              refine ⟨?_, ?_, ?_, ?_, ?_, ?_, ?_, ?_, ?_, ?_, ?_, ?_, ?_, ?_, ?_, trivial⟩
              ·
               intro zk e w ρ zhl zhh hO E
               obtain rfl : zk = 0 := Nat.le_antisymm zhh zhl
               have e6 := E.o 6 _ rfl g6_11
               have hM : Mem _ w := hO
               refine (if_pos rfl).mpr ?_
               exact res_ok (x_fieldAddr (off := 0) rfl (e6) (by kernel_rfl) rfl) (goes_still rfl rfl hM)
              ·
               intro zk e w ρ zhl zhh hO E
               obtain rfl : zk = 0 := Nat.le_antisymm zhh zhl
               have e32 := E.d 0 _ 32 rfl rfl rfl
               have hM : Mem _ w := hO
               refine (if_pos rfl).mpr ?_
               exact res_ok (x_load rfl (e32) (by kernel_rfl) ((hM.box 0 rfl).cell 0 rfl)) (goes_still rfl rfl hM)
              ·
               intro zk e w ρ zhl zhh hO E
               obtain rfl : zk = 0 := Nat.le_antisymm zhh zhl
               have e33 : ρ (.tmp 33) = .string r.cmd.name := E.d 1 _ 33 rfl rfl rfl
               have hM : Mem _ w := hO
               refine (if_pos rfl).mpr ?_
               exact res_ok (x_lenS rfl rfl rfl rfl (e33) (by kernel_rfl)) (goes_still rfl rfl hM)
              ·
               intro zk e w ρ zhl zhh hO E
               obtain rfl : zk = 0 := Nat.le_antisymm zhh zhl
               have e34 := E.d 2 _ 34 rfl rfl rfl
               have hM : Mem _ w := hO
               refine (if_pos rfl).mpr ?_
               exact res_ok (x_add rfl (E.c _) (e34) ((wr_i64 (by omega)).trans (by omega))) (goes_still rfl rfl hM)
              ·
               intro zk e w ρ zhl zhh hO E
               obtain rfl : zk = 0 := Nat.le_antisymm zhh zhl
               have e6 := E.o 6 _ rfl g6_11
               have hM : Mem _ w := hO
               refine (if_pos rfl).mpr ?_
               exact res_ok (x_fieldAddr (off := 1) rfl (e6) (by kernel_rfl) rfl) (goes_still rfl rfl hM)
              ·
               intro zk e w ρ zhl zhh hO E
               obtain rfl : zk = 0 := Nat.le_antisymm zhh zhl
               have e36 := E.d 4 _ 36 rfl rfl rfl
               have hM : Mem _ w := hO
               refine (if_pos rfl).mpr ?_
               exact res_ok (x_load rfl (e36) (by kernel_rfl) ((hM.box 0 rfl).cell 1 rfl)) (goes_still rfl rfl hM)
              ·
               intro zk e w ρ zhl zhh hO E
               obtain rfl : zk = 0 := Nat.le_antisymm zhh zhl
               have e37 : ρ (.tmp 37) = .slice al r.cmd.legs.length cl := E.d 5 _ 37 rfl rfl rfl
               have hM : Mem _ w := hO
               refine (if_pos rfl).mpr ?_
               exact res_ok (x_len (n := 3) rfl rfl rfl rfl (e37) (by kernel_rfl)) (goes_still rfl rfl hM)
              ·
               intro zk e w ρ zhl zhh hO E
               obtain rfl : zk = 0 := Nat.le_antisymm zhh zhl
               have e38 := E.d 6 _ 38 rfl rfl rfl
               have hM : Mem _ w := hO
               refine (if_pos rfl).mpr ?_
               exact res_ok (x_mul rfl (E.c _) (e38) ((wr_i64 (by omega)).trans (by omega))) (goes_still rfl rfl hM)
              ·
               intro zk e w ρ zhl zhh hO E
               obtain rfl : zk = 0 := Nat.le_antisymm zhh zhl
               have e35 := E.d 3 _ 35 rfl rfl rfl
               have e39 := E.d 7 _ 39 rfl rfl rfl
               have hM : Mem _ w := hO
               refine (if_pos rfl).mpr ?_
               exact res_ok (x_add rfl (e35) (e39) ((wr_i64 (by omega)).trans (by omega))) (goes_still rfl rfl hM)
              ·
               intro zk e w ρ zhl zhh hO E
               obtain rfl : zk = 0 := Nat.le_antisymm zhh zhl
               have e6 := E.o 6 _ rfl g6_11
               have hM : Mem _ w := hO
               refine (if_pos rfl).mpr ?_
               exact res_ok (x_fieldAddr (off := 3) rfl (e6) (by kernel_rfl) rfl) (goes_still rfl rfl hM)
              ·
               intro zk e w ρ zhl zhh hO E
               obtain rfl : zk = 0 := Nat.le_antisymm zhh zhl
               have e41 := E.d 9 _ 41 rfl rfl rfl
               have hM : Mem _ w := hO
               refine (if_pos rfl).mpr ?_
               exact res_ok (x_load rfl (e41) (by kernel_rfl) ((hM.box 0 rfl).cell 3 rfl)) (goes_still rfl rfl hM)
              ·
               intro zk e w ρ zhl zhh hO E
               obtain rfl : zk = 0 := Nat.le_antisymm zhh zhl
               have e42 : ρ (.tmp 42) = .slice at1 r.cmd.taxes.length ct := E.d 10 _ 42 rfl rfl rfl
               have hM : Mem _ w := hO
               refine (if_pos rfl).mpr ?_
               exact res_ok (x_len (n := 2) rfl rfl rfl rfl (e42) (by kernel_rfl)) (goes_still rfl rfl hM)
              ·
               intro zk e w ρ zhl zhh hO E
               obtain rfl : zk = 0 := Nat.le_antisymm zhh zhl
               have e43 := E.d 11 _ 43 rfl rfl rfl
               have hM : Mem _ w := hO
               refine (if_pos rfl).mpr ?_
               exact res_ok (x_mul rfl (E.c _) (e43) ((wr_i64 (by omega)).trans (by omega))) (goes_still rfl rfl hM)
              ·
               intro zk e w ρ zhl zhh hO E
               obtain rfl : zk = 0 := Nat.le_antisymm zhh zhl
               have e40 := E.d 8 _ 40 rfl rfl rfl
               have e44 := E.d 12 _ 44 rfl rfl rfl
               have hM : Mem _ w := hO
               refine (if_pos rfl).mpr ?_
               exact res_ok (x_add rfl (e40) (e44) ((wr_i64 (by omega)).trans (by omega))) (goes_still rfl rfl hM)
              ·
               intro zk e w ρ zhl zhh hO E
               obtain rfl : zk = 0 := Nat.le_antisymm zhh zhl
               have e45 := E.d 13 _ 45 rfl rfl rfl
               have hM : Mem _ w := hO
               refine (if_pos rfl).mpr ?_
               exact res_ok (x_assign rfl (e45)) (goes_still rfl rfl hM)
             ·
              intro e a12 w12 hz12 hd hG hO hM
              have hd12 := hd.trans hd11
              have g2_12 := (hO 2 rfl).trans g2_11
              have g3_12 := (hO 3 rfl).trans g3_11
              have g5_12 : a12.tmps[5]? = some (.int .i64 (((39 + (r.cmd.name.size : Int)) + (7 * (r.cmd.legs.length : Int))) + (9 * (r.cmd.taxes.length : Int)))) := hG 14 _ 5 rfl rfl
              have g6_12 := (hO 6 rfl).trans g6_11
              have hM12 : Mem (boxC b11_0 #[.string r.cmd.name, .slice al r.cmd.legs.length cl, .int .i64 r.cmd.fare, .slice at1 r.cmd.taxes.length ct, .int .i64 r.cmd.penalty] :: rowC 5 1 (.slice a2 ((putB r).length) c2) (putB r).length ((putB r).map (.int .u8)) :: boxC b1_0 (recCells r (.slice al r.cmd.legs.length cl) (.slice at1 r.cmd.taxes.length ct)) :: R) w12 := hM
              clear hM hG hO hd
              clear hz11 hd11 hM11 g2_11 g3_11 g5_11 g6_11
              refine then_n ?_
              refine wp_seq ?_
              refine region_seq 69 (fun zz e => (#[.int .i64 0] : Array Value).getD zz undef) (fun k e w => Mem (List.getD [boxC b11_0 #[.string r.cmd.name, .slice al r.cmd.legs.length cl, .int .i64 r.cmd.fare, .slice at1 r.cmd.taxes.length ct, .int .i64 r.cmd.penalty] :: rowC 5 1 (.slice a2 ((putB r).length) c2) (putB r).length ((putB r).map (.int .u8)) :: boxC b1_0 (recCells r (.slice al r.cmd.legs.length cl) (.slice at1 r.cmd.taxes.length ct)) :: R] k []) w) (fun _ => (0, undef)) [] [0] (fun _ _ => false) hz12 (by kernel_rfl) (by kernel_rfl) (by kernel_rfl) ?_ (show Mem _ _ from hM12) ?_ ?_
              ·
               exact ⟨fun _ _ _ => rfl, trivial⟩
              ·
               refine ⟨?_, trivial⟩
               ·
                intro zk e w ρ zhl zhh hO E
                obtain rfl : zk = 0 := Nat.le_antisymm zhh zhl
                have hM : Mem _ w := hO
                refine (if_pos rfl).mpr ?_
                exact res_ok (x_assign rfl (E.c _)) (goes_still rfl rfl hM)
              ·
               intro e a13 w13 hz13 hd hG hO hM
               have hd13 := hd.trans hd12
               have g2_13 := (hO 2 rfl).trans g2_12
               have g3_13 := (hO 3 rfl).trans g3_12
               have g5_13 := (hO 5 rfl).trans g5_12
               have g6_13 := (hO 6 rfl).trans g6_12
               have g7_13 : a13.tmps[7]? = some (.int .i64 0) := hG 0 _ 7 rfl rfl
               have hM13 : Mem (boxC b11_0 #[.string r.cmd.name, .slice al r.cmd.legs.length cl, .int .i64 r.cmd.fare, .slice at1 r.cmd.taxes.length ct, .int .i64 r.cmd.penalty] :: rowC 5 1 (.slice a2 ((putB r).length) c2) (putB r).length ((putB r).map (.int .u8)) :: boxC b1_0 (recCells r (.slice al r.cmd.legs.length cl) (.slice at1 r.cmd.taxes.length ct)) :: R) w13 := hM
               clear hM hG hO hd
               clear hz12 hd12 hM12 g2_12 g3_12 g5_12 g6_12
               refine then_n ?_
               refine wp_block ?_
               have hS1 := sumC_ge r.cmd.taxes
               have hS2 := sumC_le _ hgc
               have hS3 : sizeV r = 39 + r.cmd.name.size + 7 * r.cmd.legs.length + 9 * r.cmd.taxes.length + sumC r.cmd.taxes := if_pos hk1
               refine loopx (X := Nat × Int) (fun xx aa ww => (fun (i : Nat) (sz : Int) => aa.tmps.size = 69 ∧ aa.defers = [] ∧ aa.tmps[2]? = some (.bool false) ∧ aa.tmps[3]? = some (.slice a2 ((putB r).length) c2) ∧ aa.tmps[5]? = some (.int .i64 sz) ∧ aa.tmps[6]? = some (.pointer (some ⟨b11_0, 0, none⟩)) ∧ aa.tmps[7]? = some (.int .i64 (i : Int)) ∧ Mem (boxC b11_0 #[.string r.cmd.name, .slice al r.cmd.legs.length cl, .int .i64 r.cmd.fare, .slice at1 r.cmd.taxes.length ct, .int .i64 r.cmd.penalty] :: rowC 5 1 (.slice a2 ((putB r).length) c2) (putB r).length ((putB r).map (.int .u8)) :: boxC b1_0 (recCells r (.slice al r.cmd.legs.length cl) (.slice at1 r.cmd.taxes.length ct)) :: R) ww ∧ i ≤ r.cmd.taxes.length ∧ sz + sumC (r.cmd.taxes.drop i) = sizeV r ∧ 0 ≤ sz) xx.1 xx.2) (fun xx => (fun (i : Nat) (sz : Int) => r.cmd.taxes.length - i) xx.1 xx.2) ((0, ((39 + (r.cmd.name.size : Int)) + (7 * (r.cmd.legs.length : Int))) + (9 * (r.cmd.taxes.length : Int)))) ?_ ?_
               ·
                exact ⟨hz13, hd13, g2_13, g3_13, g5_13, g6_13, (by have h := g7_13; exact h.trans (by congr 2 <;> first | rfl | omega)), (hM13), (Nat.zero_le _), (by rw [List.drop_zero]; omega), (by omega)⟩
               ·
                clear hz13 hd13 hM13 g2_13 g3_13 g5_13 g6_13 g7_13
                rintro ⟨i, sz⟩ a14 w14 hI
                dsimp only at hI ⊢
                obtain ⟨hz14, hd14, g2_14, g3_14, g5_14, g6_14, g7_14, hM14, hi0, hsum, hsz0⟩ := hI
                refine wp_seq ?_
                refine wp_seq ?_
                refine region_seq 69 (fun zz e => (#[.int .i64 (i : Int), .pointer (some ⟨b11_0, 3, none⟩), .slice at1 r.cmd.taxes.length ct, .int .i64 (r.cmd.taxes.length : Int), .bool (decide ((i : Int) < (r.cmd.taxes.length : Int)))] : Array Value).getD zz undef) (fun k e w => Mem (List.getD [boxC b11_0 #[.string r.cmd.name, .slice al r.cmd.legs.length cl, .int .i64 r.cmd.fare, .slice at1 r.cmd.taxes.length ct, .int .i64 r.cmd.penalty] :: rowC 5 1 (.slice a2 ((putB r).length) c2) (putB r).length ((putB r).map (.int .u8)) :: boxC b1_0 (recCells r (.slice al r.cmd.legs.length cl) (.slice at1 r.cmd.taxes.length ct)) :: R] k []) w) (fun _ => (0, undef)) [] [0, 0, 0, 0, 0] (fun _ _ => false) hz14 (by kernel_rfl) (by kernel_rfl) (by kernel_rfl) ?_ (show Mem _ _ from hM14) ?_ ?_
                ·
                 exact ⟨fun _ _ _ => rfl, fun _ _ _ => rfl, fun _ _ _ => rfl, fun _ _ _ => rfl, fun _ _ _ => rfl, trivial⟩
                ·
                 refine ⟨?_, ?_, ?_, ?_, ?_, trivial⟩
                 ·
                  intro zk e w ρ zhl zhh hO E
                  obtain rfl : zk = 0 := Nat.le_antisymm zhh zhl
                  have e7 := E.o 7 _ rfl g7_14
                  have hM : Mem _ w := hO
                  refine (if_pos rfl).mpr ?_
                  exact res_ok (x_move rfl (e7)) (goes_still rfl rfl hM)
                 ·
                  intro zk e w ρ zhl zhh hO E
                  obtain rfl : zk = 0 := Nat.le_antisymm zhh zhl
                  have e6 := E.o 6 _ rfl g6_14
                  have hM : Mem _ w := hO
                  refine (if_pos rfl).mpr ?_
                  exact res_ok (x_fieldAddr (off := 3) rfl (e6) (by kernel_rfl) rfl) (goes_still rfl rfl hM)
                 ·
                  intro zk e w ρ zhl zhh hO E
                  obtain rfl : zk = 0 := Nat.le_antisymm zhh zhl
                  have e47 := E.d 1 _ 47 rfl rfl rfl
                  have hM : Mem _ w := hO
                  refine (if_pos rfl).mpr ?_
                  exact res_ok (x_load rfl (e47) (by kernel_rfl) ((hM.box 0 rfl).cell 3 rfl)) (goes_still rfl rfl hM)
                 ·
                  intro zk e w ρ zhl zhh hO E
                  obtain rfl : zk = 0 := Nat.le_antisymm zhh zhl
                  have e48 : ρ (.tmp 48) = .slice at1 r.cmd.taxes.length ct := E.d 2 _ 48 rfl rfl rfl
                  have hM : Mem _ w := hO
                  refine (if_pos rfl).mpr ?_
                  exact res_ok (x_len (n := 2) rfl rfl rfl rfl (e48) (by kernel_rfl)) (goes_still rfl rfl hM)
                 ·
                  intro zk e w ρ zhl zhh hO E
                  obtain rfl : zk = 0 := Nat.le_antisymm zhh zhl
                  have e46 := E.d 0 _ 46 rfl rfl rfl
                  have e49 := E.d 3 _ 49 rfl rfl rfl
                  have hM : Mem _ w := hO
                  refine (if_pos rfl).mpr ?_
                  exact res_ok (x_lss rfl (e46) (e49) rfl) (goes_still rfl rfl hM)
                ·
                 intro e a15 w15 hz15 hd hG hO hM
                 have hd15 := hd.trans hd14
                 have g2_15 := (hO 2 rfl).trans g2_14
                 have g3_15 := (hO 3 rfl).trans g3_14
                 have g5_15 := (hO 5 rfl).trans g5_14
                 have g6_15 := (hO 6 rfl).trans g6_14
                 have g7_15 := (hO 7 rfl).trans g7_14
                 have g46_15 : a15.tmps[46]? = some (.int .i64 (i : Int)) := hG 0 _ 46 rfl rfl
                 have g47_15 : a15.tmps[47]? = some (.pointer (some ⟨b11_0, 3, none⟩)) := hG 1 _ 47 rfl rfl
                 have g48_15 : a15.tmps[48]? = some (.slice at1 r.cmd.taxes.length ct) := hG 2 _ 48 rfl rfl
                 have g49_15 : a15.tmps[49]? = some (.int .i64 (r.cmd.taxes.length : Int)) := hG 3 _ 49 rfl rfl
                 have g50_15 : a15.tmps[50]? = some (.bool (decide ((i : Int) < (r.cmd.taxes.length : Int)))) := hG 4 _ 50 rfl rfl
                 have hM15 : Mem (boxC b11_0 #[.string r.cmd.name, .slice al r.cmd.legs.length cl, .int .i64 r.cmd.fare, .slice at1 r.cmd.taxes.length ct, .int .i64 r.cmd.penalty] :: rowC 5 1 (.slice a2 ((putB r).length) c2) (putB r).length ((putB r).map (.int .u8)) :: boxC b1_0 (recCells r (.slice al r.cmd.legs.length cl) (.slice at1 r.cmd.taxes.length ct)) :: R) w15 := hM
                 clear hM hG hO hd
                 clear hz14 hd14 hM14 g2_14 g3_14 g5_14 g6_14 g7_14
                 refine then_n ?_
                 by_cases hic : (i : Int) < (r.cmd.taxes.length : Int)
                 ·
                  refine cond_t (g50_15.trans (by rw [decide_eq_true hic])) ?_
                  obtain ⟨x, hx⟩ := list_at (show i < r.cmd.taxes.length by omega)
                  obtain ⟨b1, o1, ha1, hcx⟩ := ht.elem (show ∀ x, (taxE x).length = 2 from fun _ => rfl) (by decide) hx hM15.tail.tail.tail
                  have hst := sumC_step hx
                  have hge := sumC_ge (r.cmd.taxes.drop (i + 1))
                  refine wp_skip ?_
                  refine then_n ?_
                  refine wp_seq ?_
                  refine wp_block ?_
                  refine region_seq 69 (fun zz e => (#[.int .i64 sz, .pointer (some ⟨b11_0, 3, none⟩), .slice at1 r.cmd.taxes.length ct, .int .i64 (i : Int), .pointer (some ⟨b1, o1 + i * 2, none⟩), .pointer (some ⟨b1, o1 + i * 2, none⟩), .string x.code, .int .i64 (x.code.size : Int), .int .i64 (sz + (x.code.size : Int)), .int .i64 (sz + (x.code.size : Int))] : Array Value).getD zz undef) (fun k e w => Mem (List.getD [boxC b11_0 #[.string r.cmd.name, .slice al r.cmd.legs.length cl, .int .i64 r.cmd.fare, .slice at1 r.cmd.taxes.length ct, .int .i64 r.cmd.penalty] :: rowC 5 1 (.slice a2 ((putB r).length) c2) (putB r).length ((putB r).map (.int .u8)) :: boxC b1_0 (recCells r (.slice al r.cmd.legs.length cl) (.slice at1 r.cmd.taxes.length ct)) :: R] k []) w) (fun _ => (0, undef)) [] [0, 0, 0, 0, 0, 0, 0, 0, 0, 0] (fun i t => (i == 0 && t == 5)) hz15 (by kernel_rfl) (by kernel_rfl) (by kernel_rfl) ?_ (show Mem _ _ from hM15) ?_ ?_
                  ·
                   exact ⟨fun _ _ _ => rfl, fun _ _ _ => rfl, fun _ _ _ => rfl, fun _ _ _ => rfl, fun _ _ _ => rfl, fun _ _ _ => rfl, fun _ _ _ => rfl, fun _ _ _ => rfl, fun _ _ _ => rfl, fun _ _ _ => rfl, trivial⟩
                  ·
                   refine ⟨?_, ?_, ?_, ?_, ?_, ?_, ?_, ?_, ?_, ?_, trivial⟩
                   ·
                    intro zk e w ρ zhl zhh hO E
                    obtain rfl : zk = 0 := Nat.le_antisymm zhh zhl
                    have e5 := E.o 5 _ rfl g5_15
                    have hM : Mem _ w := hO
                    refine (if_pos rfl).mpr ?_
                    exact res_ok (x_move rfl (e5)) (goes_still rfl rfl hM)
                   ·
                    intro zk e w ρ zhl zhh hO E
                    obtain rfl : zk = 0 := Nat.le_antisymm zhh zhl
                    have e6 := E.o 6 _ rfl g6_15
                    have hM : Mem _ w := hO
                    refine (if_pos rfl).mpr ?_
                    exact res_ok (x_fieldAddr (off := 3) rfl (e6) (by kernel_rfl) rfl) (goes_still rfl rfl hM)
                   ·
                    intro zk e w ρ zhl zhh hO E
                    obtain rfl : zk = 0 := Nat.le_antisymm zhh zhl
                    have e54 := E.d 1 _ 54 rfl rfl rfl
                    have hM : Mem _ w := hO
                    refine (if_pos rfl).mpr ?_
                    exact res_ok (x_load rfl (e54) (by kernel_rfl) ((hM.box 0 rfl).cell 3 rfl)) (goes_still rfl rfl hM)
                   ·
                    intro zk e w ρ zhl zhh hO E
                    obtain rfl : zk = 0 := Nat.le_antisymm zhh zhl
                    have e7 := E.o 7 _ rfl g7_15
                    have hM : Mem _ w := hO
                    refine (if_pos rfl).mpr ?_
                    exact res_ok (x_move rfl (e7)) (goes_still rfl rfl hM)
                   ·
                    intro zk e w ρ zhl zhh hO E
                    obtain rfl : zk = 0 := Nat.le_antisymm zhh zhl
                    have e55 : ρ (.tmp 55) = .slice at1 r.cmd.taxes.length ct := E.d 2 _ 55 rfl rfl rfl
                    have e56 : ρ (.tmp 56) = .int .i64 (i : Int) := E.d 3 _ 56 rfl rfl rfl
                    have hM : Mem _ w := hO
                    refine (if_pos rfl).mpr ?_
                    exact res_ok (x_idx (n := 2) (i := i) rfl (show _ = Value.slice (some ⟨b1, o1, none⟩) (r.cmd.taxes.length) ct from by rw [← ha1]; exact e55) (e56) (by kernel_rfl) (by omega) rfl) (goes_still rfl rfl hM)
                   ·
                    intro zk e w ρ zhl zhh hO E
                    obtain rfl : zk = 0 := Nat.le_antisymm zhh zhl
                    have e57 := E.d 4 _ 57 rfl rfl rfl
                    have hM : Mem _ w := hO
                    refine (if_pos rfl).mpr ?_
                    exact res_ok (x_fieldAddr (off := 0) rfl (e57) (by kernel_rfl) rfl) (goes_still rfl rfl hM)
                   ·
                    intro zk e w ρ zhl zhh hO E
                    obtain rfl : zk = 0 := Nat.le_antisymm zhh zhl
                    have e58 : ρ (.tmp 58) = .pointer (some ⟨b1, o1 + i * 2, none⟩) := E.d 5 _ 58 rfl rfl rfl
                    have hM : Mem _ w := hO
                    refine (if_pos rfl).mpr ?_
                    exact res_ok (x_load rfl (e58) (by kernel_rfl) (hcx w hM.tail.tail.tail 0 _ rfl)) (goes_still rfl rfl hM)
                   ·
                    intro zk e w ρ zhl zhh hO E
                    obtain rfl : zk = 0 := Nat.le_antisymm zhh zhl
                    have e59 : ρ (.tmp 59) = .string x.code := E.d 6 _ 59 rfl rfl rfl
                    have hM : Mem _ w := hO
                    refine (if_pos rfl).mpr ?_
                    exact res_ok (x_lenS rfl rfl rfl rfl (e59) (by kernel_rfl)) (goes_still rfl rfl hM)
                   ·
                    intro zk e w ρ zhl zhh hO E
                    obtain rfl : zk = 0 := Nat.le_antisymm zhh zhl
                    have e53 := E.d 0 _ 53 rfl rfl rfl
                    have e60 := E.d 7 _ 60 rfl rfl rfl
                    have hM : Mem _ w := hO
                    refine (if_pos rfl).mpr ?_
                    exact res_ok (x_add rfl (e53) (e60) ((wr_i64 (by omega)).trans (by omega))) (goes_still rfl rfl hM)
                   ·
                    intro zk e w ρ zhl zhh hO E
                    obtain rfl : zk = 0 := Nat.le_antisymm zhh zhl
                    have e61 := E.d 8 _ 61 rfl rfl rfl
                    have hM : Mem _ w := hO
                    refine (if_pos rfl).mpr ?_
                    exact res_ok (x_assign rfl (e61)) (goes_still rfl rfl hM)
                  ·
                   intro e a16 w16 hz16 hd hG hO hM
                   have hd16 := hd.trans hd15
                   have g2_16 := (hO 2 rfl).trans g2_15
                   have g3_16 := (hO 3 rfl).trans g3_15
                   have g5_16 : a16.tmps[5]? = some (.int .i64 (sz + (x.code.size : Int))) := hG 9 _ 5 rfl rfl
                   have g6_16 := (hO 6 rfl).trans g6_15
                   have g7_16 := (hO 7 rfl).trans g7_15
                   have g46_16 := (hO 46 rfl).trans g46_15
                   have g47_16 := (hO 47 rfl).trans g47_15
                   have g48_16 := (hO 48 rfl).trans g48_15
                   have g49_16 := (hO 49 rfl).trans g49_15
                   have g50_16 := (hO 50 rfl).trans g50_15
                   have g53_16 : a16.tmps[53]? = some (.int .i64 sz) := hG 0 _ 53 rfl rfl
                   have g54_16 : a16.tmps[54]? = some (.pointer (some ⟨b11_0, 3, none⟩)) := hG 1 _ 54 rfl rfl
                   have g55_16 : a16.tmps[55]? = some (.slice at1 r.cmd.taxes.length ct) := hG 2 _ 55 rfl rfl
                   have g56_16 : a16.tmps[56]? = some (.int .i64 (i : Int)) := hG 3 _ 56 rfl rfl
                   have g57_16 : a16.tmps[57]? = some (.pointer (some ⟨b1, o1 + i * 2, none⟩)) := hG 4 _ 57 rfl rfl
                   have g58_16 : a16.tmps[58]? = some (.pointer (some ⟨b1, o1 + i * 2, none⟩)) := hG 5 _ 58 rfl rfl
                   have g59_16 : a16.tmps[59]? = some (.string x.code) := hG 6 _ 59 rfl rfl
                   have g60_16 : a16.tmps[60]? = some (.int .i64 (x.code.size : Int)) := hG 7 _ 60 rfl rfl
                   have g61_16 : a16.tmps[61]? = some (.int .i64 (sz + (x.code.size : Int))) := hG 8 _ 61 rfl rfl
                   have hM16 : Mem (boxC b11_0 #[.string r.cmd.name, .slice al r.cmd.legs.length cl, .int .i64 r.cmd.fare, .slice at1 r.cmd.taxes.length ct, .int .i64 r.cmd.penalty] :: rowC 5 1 (.slice a2 ((putB r).length) c2) (putB r).length ((putB r).map (.int .u8)) :: boxC b1_0 (recCells r (.slice al r.cmd.legs.length cl) (.slice at1 r.cmd.taxes.length ct)) :: R) w16 := hM
                   clear hM hG hO hd
                   clear hz15 hd15 hM15 g2_15 g3_15 g5_15 g6_15 g7_15 g46_15 g47_15 g48_15 g49_15 g50_15
                   refine blk_n ?_
                   refine then_n ?_
                   refine region_seq 69 (fun zz e => (#[.int .i64 (i : Int), .int .i64 ((i + 1 : Nat) : Int), .int .i64 ((i + 1 : Nat) : Int)] : Array Value).getD zz undef) (fun k e w => Mem (List.getD [boxC b11_0 #[.string r.cmd.name, .slice al r.cmd.legs.length cl, .int .i64 r.cmd.fare, .slice at1 r.cmd.taxes.length ct, .int .i64 r.cmd.penalty] :: rowC 5 1 (.slice a2 ((putB r).length) c2) (putB r).length ((putB r).map (.int .u8)) :: boxC b1_0 (recCells r (.slice al r.cmd.legs.length cl) (.slice at1 r.cmd.taxes.length ct)) :: R] k []) w) (fun _ => (0, undef)) [] [0, 0, 0] (fun i t => (i == 0 && t == 7)) hz16 (by kernel_rfl) (by kernel_rfl) (by kernel_rfl) ?_ (show Mem _ _ from hM16) ?_ ?_
                   ·
                    exact ⟨fun _ _ _ => rfl, fun _ _ _ => rfl, fun _ _ _ => rfl, trivial⟩
                   ·
                    refine ⟨?_, ?_, ?_, trivial⟩
                    ·
                     intro zk e w ρ zhl zhh hO E
                     obtain rfl : zk = 0 := Nat.le_antisymm zhh zhl
                     have e7 := E.o 7 _ rfl g7_16
                     have hM : Mem _ w := hO
                     refine (if_pos rfl).mpr ?_
                     exact res_ok (x_move rfl (e7)) (goes_still rfl rfl hM)
                    ·
                     intro zk e w ρ zhl zhh hO E
                     obtain rfl : zk = 0 := Nat.le_antisymm zhh zhl
                     have e51 := E.d 0 _ 51 rfl rfl rfl
                     have hM : Mem _ w := hO
                     refine (if_pos rfl).mpr ?_
                     exact res_ok (x_add rfl (e51) (E.c _) ((wr_i64 (by omega)).trans (by omega))) (goes_still rfl rfl hM)
                    ·
                     intro zk e w ρ zhl zhh hO E
                     obtain rfl : zk = 0 := Nat.le_antisymm zhh zhl
                     have e52 := E.d 1 _ 52 rfl rfl rfl
                     have hM : Mem _ w := hO
                     refine (if_pos rfl).mpr ?_
                     exact res_ok (x_assign rfl (e52)) (goes_still rfl rfl hM)
                   ·
                    intro e a17 w17 hz17 hd hG hO hM
                    have hd17 := hd.trans hd16
                    have g2_17 := (hO 2 rfl).trans g2_16
                    have g3_17 := (hO 3 rfl).trans g3_16
                    have g5_17 := (hO 5 rfl).trans g5_16
                    have g6_17 := (hO 6 rfl).trans g6_16
                    have g7_17 : a17.tmps[7]? = some (.int .i64 ((i + 1 : Nat) : Int)) := hG 2 _ 7 rfl rfl
                    have g46_17 := (hO 46 rfl).trans g46_16
                    have g47_17 := (hO 47 rfl).trans g47_16
                    have g48_17 := (hO 48 rfl).trans g48_16
                    have g49_17 := (hO 49 rfl).trans g49_16
                    have g50_17 := (hO 50 rfl).trans g50_16
                    have g51_17 : a17.tmps[51]? = some (.int .i64 (i : Int)) := hG 0 _ 51 rfl rfl
                    have g52_17 : a17.tmps[52]? = some (.int .i64 ((i + 1 : Nat) : Int)) := hG 1 _ 52 rfl rfl
                    have g53_17 := (hO 53 rfl).trans g53_16
                    have g54_17 := (hO 54 rfl).trans g54_16
                    have g55_17 := (hO 55 rfl).trans g55_16
                    have g56_17 := (hO 56 rfl).trans g56_16
                    have g57_17 := (hO 57 rfl).trans g57_16
                    have g58_17 := (hO 58 rfl).trans g58_16
                    have g59_17 := (hO 59 rfl).trans g59_16
                    have g60_17 := (hO 60 rfl).trans g60_16
                    have g61_17 := (hO 61 rfl).trans g61_16
                    have hM17 : Mem (boxC b11_0 #[.string r.cmd.name, .slice al r.cmd.legs.length cl, .int .i64 r.cmd.fare, .slice at1 r.cmd.taxes.length ct, .int .i64 r.cmd.penalty] :: rowC 5 1 (.slice a2 ((putB r).length) c2) (putB r).length ((putB r).map (.int .u8)) :: boxC b1_0 (recCells r (.slice al r.cmd.legs.length cl) (.slice at1 r.cmd.taxes.length ct)) :: R) w17 := hM
                    clear hM hG hO hd
                    clear hz16 hd16 hM16 g2_16 g3_16 g5_16 g6_16 g7_16 g46_16 g47_16 g48_16 g49_16 g50_16 g53_16 g54_16 g55_16 g56_16 g57_16 g58_16 g59_16 g60_16 g61_16
                    refine then_n ?_
                    exact ⟨(i + 1, sz + (x.code.size : Int)), by omega, ⟨hz17, hd17, g2_17, g3_17, g5_17, g6_17, (by have h := g7_17; exact h.trans (by congr 2 <;> first | rfl | omega)), (hM17), (by show i + 1 ≤ _; omega), (by show sz + (x.code.size : Int) + sumC (r.cmd.taxes.drop (i + 1)) = sizeV r; omega), (by show 0 ≤ sz + (x.code.size : Int); omega)⟩⟩
                 ·
                  refine cond_f (g50_15.trans (by rw [decide_eq_false hic])) ?_
                  refine wp_exit ?_
                  refine then_x ?_
                  refine then_x ?_
                  refine blk_x ?_
                  refine then_n ?_
                  refine wp_seq ?_
                  have hsz : ((putB r).length : Int) = sz := by rw [putB_eq hE hi, recBy_len]; rw [← hsum, List.drop_of_length_le (by omega)]; simp [sumC]
                  refine region_seq 69 (fun zz e => (#[.slice a2 ((putB r).length) c2, .int .i64 ((putB r).length : Int), .int .i64 sz, .bool true, .bool true, .bool true, .bool true, .bool true] : Array Value).getD zz undef) (fun k e w => Mem (List.getD [boxC b11_0 #[.string r.cmd.name, .slice al r.cmd.legs.length cl, .int .i64 r.cmd.fare, .slice at1 r.cmd.taxes.length ct, .int .i64 r.cmd.penalty] :: rowC 5 1 (.slice a2 ((putB r).length) c2) (putB r).length ((putB r).map (.int .u8)) :: boxC b1_0 (recCells r (.slice al r.cmd.legs.length cl) (.slice at1 r.cmd.taxes.length ct)) :: R] k []) w) (fun _ => (0, undef)) [] [0, 0, 0, 0, 0, 0, 0, 0] (fun _ _ => false) hz15 (by kernel_rfl) (by kernel_rfl) (by kernel_rfl) ?_ (show Mem _ _ from hM15) ?_ ?_
                  ·
                   exact ⟨fun _ _ _ => rfl, fun _ _ _ => rfl, fun _ _ _ => rfl, fun _ _ _ => rfl, fun _ _ _ => rfl, fun _ _ _ => rfl, fun _ _ _ => rfl, fun _ _ _ => rfl, trivial⟩
                  ·
                   refine ⟨?_, ?_, ?_, ?_, ?_, ?_, ?_, ?_, trivial⟩
                   ·
                    intro zk e w ρ zhl zhh hO E
                    obtain rfl : zk = 0 := Nat.le_antisymm zhh zhl
                    have e3 := E.o 3 _ rfl g3_15
                    have hM : Mem _ w := hO
                    refine (if_pos rfl).mpr ?_
                    exact res_ok (x_move rfl (e3)) (goes_still rfl rfl hM)
                   ·
                    intro zk e w ρ zhl zhh hO E
                    obtain rfl : zk = 0 := Nat.le_antisymm zhh zhl
                    have e62 : ρ (.tmp 62) = .slice a2 ((putB r).length) c2 := E.d 0 _ 62 rfl rfl rfl
                    have hM : Mem _ w := hO
                    refine (if_pos rfl).mpr ?_
                    exact res_ok (x_len (n := 1) rfl rfl rfl rfl (e62) (by kernel_rfl)) (goes_still rfl rfl hM)
                   ·
                    intro zk e w ρ zhl zhh hO E
                    obtain rfl : zk = 0 := Nat.le_antisymm zhh zhl
                    have e5 := E.o 5 _ rfl g5_15
                    have hM : Mem _ w := hO
                    refine (if_pos rfl).mpr ?_
                    exact res_ok (x_move rfl (e5)) (goes_still rfl rfl hM)
                   ·
                    intro zk e w ρ zhl zhh hO E
                    obtain rfl : zk = 0 := Nat.le_antisymm zhh zhl
                    have e63 := E.d 1 _ 63 rfl rfl rfl
                    have e64 := E.d 2 _ 64 rfl rfl rfl
                    have hM : Mem _ w := hO
                    refine (if_pos rfl).mpr ?_
                    exact res_ok (x_eql rfl (e63) (e64) (decide_eq_true hsz)) (goes_still rfl rfl hM)
                   ·
                    intro zk e w ρ zhl zhh hO E
                    obtain rfl : zk = 0 := Nat.le_antisymm zhh zhl
                    have e65 := E.d 3 _ 65 rfl rfl rfl
                    have hM : Mem _ w := hO
                    refine (if_pos rfl).mpr ?_
                    exact res_ok (x_move rfl (e65)) (goes_still rfl rfl hM)
                   ·
                    intro zk e w ρ zhl zhh hO E
                    obtain rfl : zk = 0 := Nat.le_antisymm zhh zhl
                    have hM : Mem _ w := hO
                    refine (if_pos rfl).mpr ?_
                    refine res_in (x_call (args := #[]) rfl rfl (E.f _) (by simp) (by kernel_rfl)) ?_
                    refine (puts_at _ _ hM).mono ?_
                    rintro e' w' ⟨rfl, hm⟩
                    exact ⟨_, rfl, goes_still rfl rfl (hm)⟩
                   ·
                    intro zk e w ρ zhl zhh hO E
                    obtain rfl : zk = 0 := Nat.le_antisymm zhh zhl
                    have e66 : ρ (.tmp 66) = .bool true := E.d 4 _ 66 rfl rfl rfl
                    have e67 : ρ (.tmp 67) = .bool true := E.d 5 _ 67 rfl rfl rfl
                    have hM : Mem _ w := hO
                    refine (if_pos rfl).mpr ?_
                    exact res_ok (x_pick rfl (e66) (e67)) (goes_still rfl rfl hM)
                   ·
                    intro zk e w ρ zhl zhh hO E
                    obtain rfl : zk = 0 := Nat.le_antisymm zhh zhl
                    have e68 := E.d 6 _ 68 rfl rfl rfl
                    have hM : Mem _ w := hO
                    refine (if_pos rfl).mpr ?_
                    exact res_ok (x_assign rfl (e68)) (goes_still rfl rfl hM)
                  ·
                   intro e a18 w18 hz18 hd hG hO hM
                   have hd18 := hd.trans hd15
                   have g2_18 : a18.tmps[2]? = some (.bool true) := hG 7 _ 2 rfl rfl
                   have hM18 : Mem (boxC b11_0 #[.string r.cmd.name, .slice al r.cmd.legs.length cl, .int .i64 r.cmd.fare, .slice at1 r.cmd.taxes.length ct, .int .i64 r.cmd.penalty] :: rowC 5 1 (.slice a2 ((putB r).length) c2) (putB r).length ((putB r).map (.int .u8)) :: boxC b1_0 (recCells r (.slice al r.cmd.legs.length cl) (.slice at1 r.cmd.taxes.length ct)) :: R) w18 := hM
                   clear hM hG hO hd
                   clear hz15 hd15 hM15 g2_15 g3_15 g5_15 g6_15 g7_15 g46_15 g47_15 g48_15 g49_15 g50_15
                   refine then_n ?_
                   refine wp_ret ?_
                   refine ret_1 Try.results9 hd18 g2_18 ?_
                   exact ⟨rfl, hM18.tail.tail.tail⟩
           ·
            refine cond_f (g28_10.trans (by rw [decide_eq_false hk1])) ?_
            refine wp_skip ?_
            refine then_n ?_
            refine wp_seq ?_
            have hsz : ((putB r).length : Int) = 10 := by rw [putB_eq hE hi, recBy_len]; show sizeV r = 10; unfold sizeV; rw [if_neg hk1, if_neg hk2]
            refine region_seq 69 (fun zz e => (#[.slice a2 ((putB r).length) c2, .int .i64 ((putB r).length : Int), .int .i64 10, .bool true, .bool true, .bool true, .bool true, .bool true] : Array Value).getD zz undef) (fun k e w => Mem (List.getD [rowC 5 1 (.slice a2 ((putB r).length) c2) (putB r).length ((putB r).map (.int .u8)) :: boxC b1_0 (recCells r (.slice al r.cmd.legs.length cl) (.slice at1 r.cmd.taxes.length ct)) :: R] k []) w) (fun _ => (0, undef)) [] [0, 0, 0, 0, 0, 0, 0, 0] (fun _ _ => false) hz10 (by kernel_rfl) (by kernel_rfl) (by kernel_rfl) ?_ (show Mem _ _ from hM10) ?_ ?_
            ·
             exact ⟨fun _ _ _ => rfl, fun _ _ _ => rfl, fun _ _ _ => rfl, fun _ _ _ => rfl, fun _ _ _ => rfl, fun _ _ _ => rfl, fun _ _ _ => rfl, fun _ _ _ => rfl, trivial⟩
            ·
             refine ⟨?_, ?_, ?_, ?_, ?_, ?_, ?_, ?_, trivial⟩
             ·
              intro zk e w ρ zhl zhh hO E
              obtain rfl : zk = 0 := Nat.le_antisymm zhh zhl
              have e3 := E.o 3 _ rfl g3_10
              have hM : Mem _ w := hO
              refine (if_pos rfl).mpr ?_
              exact res_ok (x_move rfl (e3)) (goes_still rfl rfl hM)
             ·
              intro zk e w ρ zhl zhh hO E
              obtain rfl : zk = 0 := Nat.le_antisymm zhh zhl
              have e62 : ρ (.tmp 62) = .slice a2 ((putB r).length) c2 := E.d 0 _ 62 rfl rfl rfl
              have hM : Mem _ w := hO
              refine (if_pos rfl).mpr ?_
              exact res_ok (x_len (n := 1) rfl rfl rfl rfl (e62) (by kernel_rfl)) (goes_still rfl rfl hM)
             ·
              intro zk e w ρ zhl zhh hO E
              obtain rfl : zk = 0 := Nat.le_antisymm zhh zhl
              have e5 := E.o 5 _ rfl g5_10
              have hM : Mem _ w := hO
              refine (if_pos rfl).mpr ?_
              exact res_ok (x_move rfl (e5)) (goes_still rfl rfl hM)
             ·
              intro zk e w ρ zhl zhh hO E
              obtain rfl : zk = 0 := Nat.le_antisymm zhh zhl
              have e63 := E.d 1 _ 63 rfl rfl rfl
              have e64 := E.d 2 _ 64 rfl rfl rfl
              have hM : Mem _ w := hO
              refine (if_pos rfl).mpr ?_
              exact res_ok (x_eql rfl (e63) (e64) (decide_eq_true hsz)) (goes_still rfl rfl hM)
             ·
              intro zk e w ρ zhl zhh hO E
              obtain rfl : zk = 0 := Nat.le_antisymm zhh zhl
              have e65 := E.d 3 _ 65 rfl rfl rfl
              have hM : Mem _ w := hO
              refine (if_pos rfl).mpr ?_
              exact res_ok (x_move rfl (e65)) (goes_still rfl rfl hM)
             ·
              intro zk e w ρ zhl zhh hO E
              obtain rfl : zk = 0 := Nat.le_antisymm zhh zhl
              have hM : Mem _ w := hO
              refine (if_pos rfl).mpr ?_
              refine res_in (x_call (args := #[]) rfl rfl (E.f _) (by simp) (by kernel_rfl)) ?_
              refine (puts_at _ _ hM).mono ?_
              rintro e' w' ⟨rfl, hm⟩
              exact ⟨_, rfl, goes_still rfl rfl (hm)⟩
             ·
              intro zk e w ρ zhl zhh hO E
              obtain rfl : zk = 0 := Nat.le_antisymm zhh zhl
              have e66 : ρ (.tmp 66) = .bool true := E.d 4 _ 66 rfl rfl rfl
              have e67 : ρ (.tmp 67) = .bool true := E.d 5 _ 67 rfl rfl rfl
              have hM : Mem _ w := hO
              refine (if_pos rfl).mpr ?_
              exact res_ok (x_pick rfl (e66) (e67)) (goes_still rfl rfl hM)
             ·
              intro zk e w ρ zhl zhh hO E
              obtain rfl : zk = 0 := Nat.le_antisymm zhh zhl
              have e68 := E.d 6 _ 68 rfl rfl rfl
              have hM : Mem _ w := hO
              refine (if_pos rfl).mpr ?_
              exact res_ok (x_assign rfl (e68)) (goes_still rfl rfl hM)
            ·
             intro e a19 w19 hz19 hd hG hO hM
             have hd19 := hd.trans hd10
             have g2_19 : a19.tmps[2]? = some (.bool true) := hG 7 _ 2 rfl rfl
             have hM19 : Mem (rowC 5 1 (.slice a2 ((putB r).length) c2) (putB r).length ((putB r).map (.int .u8)) :: boxC b1_0 (recCells r (.slice al r.cmd.legs.length cl) (.slice at1 r.cmd.taxes.length ct)) :: R) w19 := hM
             clear hM hG hO hd
             clear hz10 hd10 hM10 g1_10 g2_10 g3_10 g5_10 g28_10
             refine then_n ?_
             refine wp_ret ?_
             refine ret_1 Try.results9 hd19 g2_19 ?_
             exact ⟨rfl, hM19.tail.tail⟩
      ·
       refine cond_t (g16_4.trans (by rw [decide_eq_false hE]; rfl)) ?_
       have hB0 : ((putB r).length : Int) = 0 := by rw [putB_no hE]; rfl
       refine wp_seq ?_
       refine region_seq 69 (fun zz e => (#[.slice a2 ((putB r).length) c2, .int .i64 ((putB r).length : Int), .bool true, .bool true, .bool true, .bool true, .bool true] : Array Value).getD zz undef) (fun k e w => Mem (List.getD [rowC 5 1 (.slice a2 ((putB r).length) c2) (putB r).length ((putB r).map (.int .u8)) :: boxC b1_0 (recCells r (.slice al r.cmd.legs.length cl) (.slice at1 r.cmd.taxes.length ct)) :: R] k []) w) (fun _ => (0, undef)) [] [0, 0, 0, 0, 0, 0, 0] (fun _ _ => false) hz4 (by kernel_rfl) (by kernel_rfl) (by kernel_rfl) ?_ (show Mem _ _ from hM4) ?_ ?_
       ·
        exact ⟨fun _ _ _ => rfl, fun _ _ _ => rfl, fun _ _ _ => rfl, fun _ _ _ => rfl, fun _ _ _ => rfl, fun _ _ _ => rfl, fun _ _ _ => rfl, trivial⟩
       ·
        refine ⟨?_, ?_, ?_, ?_, ?_, ?_, ?_, trivial⟩
        ·
         intro zk e w ρ zhl zhh hO E
         obtain rfl : zk = 0 := Nat.le_antisymm zhh zhl
         have e3 := E.o 3 _ rfl g3_4
         have hM : Mem _ w := hO
         refine (if_pos rfl).mpr ?_
         exact res_ok (x_move rfl (e3)) (goes_still rfl rfl hM)
        ·
         intro zk e w ρ zhl zhh hO E
         obtain rfl : zk = 0 := Nat.le_antisymm zhh zhl
         have e17 : ρ (.tmp 17) = .slice a2 ((putB r).length) c2 := E.d 0 _ 17 rfl rfl rfl
         have hM : Mem _ w := hO
         refine (if_pos rfl).mpr ?_
         exact res_ok (x_len (n := 1) rfl rfl rfl rfl (e17) (by kernel_rfl)) (goes_still rfl rfl hM)
        ·
         intro zk e w ρ zhl zhh hO E
         obtain rfl : zk = 0 := Nat.le_antisymm zhh zhl
         have e18 := E.d 1 _ 18 rfl rfl rfl
         have hM : Mem _ w := hO
         refine (if_pos rfl).mpr ?_
         exact res_ok (x_eql rfl (e18) (E.c _) (decide_eq_true hB0)) (goes_still rfl rfl hM)
        ·
         intro zk e w ρ zhl zhh hO E
         obtain rfl : zk = 0 := Nat.le_antisymm zhh zhl
         have e19 := E.d 2 _ 19 rfl rfl rfl
         have hM : Mem _ w := hO
         refine (if_pos rfl).mpr ?_
         exact res_ok (x_move rfl (e19)) (goes_still rfl rfl hM)
        ·
         intro zk e w ρ zhl zhh hO E
         obtain rfl : zk = 0 := Nat.le_antisymm zhh zhl
         have hM : Mem _ w := hO
         refine (if_pos rfl).mpr ?_
         refine res_in (x_call (args := #[]) rfl rfl (E.f _) (by simp) (by kernel_rfl)) ?_
         refine (puts_at _ _ hM).mono ?_
         rintro e' w' ⟨rfl, hm⟩
         exact ⟨_, rfl, goes_still rfl rfl (hm)⟩
        ·
         intro zk e w ρ zhl zhh hO E
         obtain rfl : zk = 0 := Nat.le_antisymm zhh zhl
         have e20 : ρ (.tmp 20) = .bool true := E.d 3 _ 20 rfl rfl rfl
         have e21 : ρ (.tmp 21) = .bool true := E.d 4 _ 21 rfl rfl rfl
         have hM : Mem _ w := hO
         refine (if_pos rfl).mpr ?_
         exact res_ok (x_pick rfl (e20) (e21)) (goes_still rfl rfl hM)
        ·
         intro zk e w ρ zhl zhh hO E
         obtain rfl : zk = 0 := Nat.le_antisymm zhh zhl
         have e22 := E.d 5 _ 22 rfl rfl rfl
         have hM : Mem _ w := hO
         refine (if_pos rfl).mpr ?_
         exact res_ok (x_assign rfl (e22)) (goes_still rfl rfl hM)
       ·
        intro e a20 w20 hz20 hd hG hO hM
        have hd20 := hd.trans hd4
        have g1_20 := (hO 1 rfl).trans g1_4
        have g2_20 : a20.tmps[2]? = some (.bool true) := hG 6 _ 2 rfl rfl
        have g3_20 := (hO 3 rfl).trans g3_4
        have hM20 : Mem (rowC 5 1 (.slice a2 ((putB r).length) c2) (putB r).length ((putB r).map (.int .u8)) :: boxC b1_0 (recCells r (.slice al r.cmd.legs.length cl) (.slice at1 r.cmd.taxes.length ct)) :: R) w20 := hM
        clear hM hG hO hd
        clear hz4 hd4 hM4 g1_4 g2_4 g3_4 g16_4
        refine then_n ?_
        refine wp_ret ?_
        refine then_r ?_
        refine ret_1 Try.results9 hd20 g2_20 ?_
        exact ⟨rfl, hM20.tail.tail⟩
   ·
    refine cond_t (g9_2.trans (by rw [hc1])) ?_
    refine wp_seq ?_
    refine region_seq 69 (fun zz e => (#[.bool true] : Array Value).getD zz undef) (fun k e w => Mem (List.getD [boxC b1_0 (recCells r (.slice al r.cmd.legs.length cl) (.slice at1 r.cmd.taxes.length ct)) :: R] k []) w) (fun _ => (0, undef)) [] [0] (fun _ _ => false) hz2 (by kernel_rfl) (by kernel_rfl) (by kernel_rfl) ?_ (show Mem _ _ from hM2) ?_ ?_
    ·
     exact ⟨fun _ _ _ => rfl, trivial⟩
    ·
     refine ⟨?_, trivial⟩
     ·
      intro zk e w ρ zhl zhh hO E
      obtain rfl : zk = 0 := Nat.le_antisymm zhh zhl
      have hM : Mem _ w := hO
      refine (if_pos rfl).mpr ?_
      exact res_ok (x_assign rfl (E.c _)) (goes_still rfl rfl hM)
    ·
     intro e a21 w21 hz21 hd hG hO hM
     have hd21 := hd.trans hd2
     have g1_21 := (hO 1 rfl).trans g1_2
     have g2_21 : a21.tmps[2]? = some (.bool true) := hG 0 _ 2 rfl rfl
     have hM21 : Mem (boxC b1_0 (recCells r (.slice al r.cmd.legs.length cl) (.slice at1 r.cmd.taxes.length ct)) :: R) w21 := hM
     clear hM hG hO hd
     clear hz2 hd2 hM2 g1_2 g2_2 g9_2
     refine then_n ?_
     refine wp_ret ?_
     refine then_r ?_
     refine ret_1 Try.results9 hd21 g2_21 ?_
     exact ⟨rfl, hM21.tail⟩
theorem sizes_any (r : RecV) (al at1 : Option Addr) (cl ct : Nat) (w : World) (hl : Row w al (cellsL legE r.cmd.legs)) (ht : Row w at1 (cellsL taxE r.cmd.taxes)) (hi : RecIn r) :
  Calls Try.prog 9 #[.agg (recCells r (.slice al r.cmd.legs.length cl) (.slice at1 r.cmd.taxes.length ct))] w fun e w' => e = .returned (.bool true) ∧ Below w.heap.size w w' := by
 refine (sizes_at r al at1 cl ct [oldC w] w (Mem.old w) (Reads.old hl 0 rfl) (Reads.old ht 0 rfl) hi).mono fun e w' h => ⟨h.1, h.2.below 0 rfl⟩
end Go.Proofs.Ytfcjmpgbohgoeaa
