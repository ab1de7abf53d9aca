/- CODEC: a number laid, a number taken. -/
import Derived.Test.YtfcjmpgbohgoeaaCo1
namespace Go.Proofs.Ytfcjmpgbohgoeaa
open Go.RowKit Go.Lib Go.Tk Go.Shelf Go.Vc
set_option linter.unusedVariables false
set_option linter.unusedSimpArgs false
attribute [-go_sem] loadCellsFrom
theorem lay_snoc {bs : List Int} {v : Int} {n m : Nat} {E : TypeId} {u : Value} (h : m < n) : (rowC E 1 u (bs.length + (n - (m + 1)) + 1) ((bs ++ beHi v n (n - (m + 1))).map (Value.int .u8) ++ [.int .u8 (byteAt v m)])) = rowC E 1 u (bs.length + (n - m)) ((bs ++ beHi v n (n - m)).map (.int .u8)) := by
 have e : n - m = n - (m + 1) + 1 := by omega
 rw [e, beHi, show n - 1 - (n - (m + 1)) = m from by omega]
 simp [Nat.add_assoc]
set_option maxRecDepth 100000 in
set_option maxHeartbeats 2000000 in
theorem lay_at (pw : Nat) (bad : Bool) (v0 : Value) (bs : List Int) (v : Int) (n : Nat) (R : List Chunk) (w : World) (hM : Mem (boxC pw #[v0, .func (.func 27) #[.pointer (some ⟨pw, 0, none⟩)] #[], .bool bad] :: rowC 5 1 v0 bs.length (bs.map (.int .u8)) :: R) w) (hv : 0 ≤ v ∧ v ≤ 18446744073709551615) (hn : n ≤ 8) (hb : bs.length ≤ 1000000) :
  Calls Try.prog 27 #[.pointer (some ⟨pw, 0, none⟩), .int .u64 v, .int .i64 n] w fun e w' => ∃ v1, e = .returned (.int .u64 v) ∧ Mem (boxC pw #[v1, .func (.func 27) #[.pointer (some ⟨pw, 0, none⟩)] #[], .bool bad] :: rowC 5 1 v1 (bs.length + n) ((bs ++ be v n).map (.int .u8)) :: R) w' := by
 refine enter Try.func27 rfl Try.ntmps27 (Nat.le_of_ble_eq_true rfl) ?_
 intro a0 hz0 hd0 hg0
 have g0_0 : a0.tmps[0]? = some (.pointer (some ⟨pw, 0, none⟩)) := hg0 0 _ rfl
 have g1_0 : a0.tmps[1]? = some (.int .u64 v) := hg0 1 _ rfl
 have g2_0 : a0.tmps[2]? = some (.int .i64 (n : Int)) := hg0 2 _ rfl
 clear hg0
 have hM0 : Mem (boxC pw #[v0, .func (.func 27) #[.pointer (some ⟨pw, 0, none⟩)] #[], .bool bad] :: rowC 5 1 (v0) bs.length (bs.map (.int .u8)) :: R) _ := hM
 refine wp_seq ?_
 refine region_seq 29 (fun zz e => (#[.int .u64 0] : Array Value).getD zz undef) (fun k e w => Mem (List.getD [boxC pw #[v0, .func (.func 27) #[.pointer (some ⟨pw, 0, none⟩)] #[], .bool bad] :: rowC 5 1 (v0) bs.length (bs.map (.int .u8)) :: R] k []) w) (fun _ => (0, undef)) [] [0] (fun _ _ => false) hz0 (by kernel_rfl) (by kernel_rfl) (by kernel_rfl) ?_ (show Mem _ _ from hM0) ?_ ?_
 · exact ⟨fun _ _ _ => rfl, trivial⟩
 ·
  refine ⟨?_, trivial⟩
  · exact op2 (a := 0) rfl fun e w ρ (hM : Mem _ w) E => res_ok (x_assign rfl (E.c _)) (goes_still rfl rfl hM)
 ·
  intro e a1 w1 hz1 hd hG hO hM
  have hd1 := hd.trans hd0
  have g0_1 := (hO 0 rfl).trans g0_0
  have g1_1 := (hO 1 rfl).trans g1_0
  have g2_1 := (hO 2 rfl).trans g2_0
  have g6_1 : a1.tmps[6]? = some (.int .u64 0) := hG 0 _ 6 rfl rfl
  have hM1 : Mem (boxC pw #[v0, .func (.func 27) #[.pointer (some ⟨pw, 0, none⟩)] #[], .bool bad] :: rowC 5 1 (v0) bs.length (bs.map (.int .u8)) :: R) w1 := hM
  clear hM hG hO hd
  clear hz0 hd0 hM0 g0_0 g1_0 g2_0
  refine then_n ?_
  refine wp_seq ?_
  refine wp_seq ?_
  refine region_seq 29 (fun zz e => (#[.int .i64 (n : Int), .int .i64 ((n : Int) - 1), .int .i64 ((n : Int) - 1)] : Array Value).getD zz undef) (fun k e w => Mem (List.getD [boxC pw #[v0, .func (.func 27) #[.pointer (some ⟨pw, 0, none⟩)] #[], .bool bad] :: rowC 5 1 (v0) bs.length (bs.map (.int .u8)) :: R] k []) w) (fun _ => (0, undef)) [] [0, 0, 0] (fun _ _ => false) hz1 (by kernel_rfl) (by kernel_rfl) (by kernel_rfl) ?_ (show Mem _ _ from hM1) ?_ ?_
  · exact ⟨fun _ _ _ => rfl, fun _ _ _ => rfl, fun _ _ _ => rfl, trivial⟩
  ·
   refine ⟨?_, ?_, ?_, trivial⟩
   · exact op2 (a := 0) rfl fun e w ρ (hM : Mem _ w) E => res_ok (x_move rfl (E.o 2 _ rfl g2_1)) (goes_still rfl rfl hM)
   · exact op2 (a := 0) rfl fun e w ρ (hM : Mem _ w) E => res_ok (x_sub rfl (E.d 0 _ 8 rfl rfl rfl) (E.c _) ((wr_i64 (by omega)).trans (by omega))) (goes_still rfl rfl hM)
   · exact op2 (a := 0) rfl fun e w ρ (hM : Mem _ w) E => res_ok (x_assign rfl (E.d 1 _ 9 rfl rfl rfl)) (goes_still rfl rfl hM)
  ·
   intro e a2 w2 hz2 hd hG hO hM
   have hd2 := hd.trans hd1
   have g0_2 := (hO 0 rfl).trans g0_1
   have g1_2 := (hO 1 rfl).trans g1_1
   have g6_2 := (hO 6 rfl).trans g6_1
   have g7_2 : a2.tmps[7]? = some (.int .i64 ((n : Int) - 1)) := hG 2 _ 7 rfl rfl
   have hM2 : Mem (boxC pw #[v0, .func (.func 27) #[.pointer (some ⟨pw, 0, none⟩)] #[], .bool bad] :: rowC 5 1 (v0) bs.length (bs.map (.int .u8)) :: R) w2 := hM
   clear hM hG hO hd
   clear hz1 hd1 hM1 g0_1 g1_1 g2_1 g6_1
   refine then_n ?_
   refine wp_block ?_
   refine loopx (X := Nat × Value) (fun xx aa ww => (fun (j : Nat) (v1 : Value) => aa.tmps.size = 29 ∧ aa.defers = [] ∧ aa.tmps[0]? = some (.pointer (some ⟨pw, 0, none⟩)) ∧ aa.tmps[1]? = some (.int .u64 v) ∧ aa.tmps[6]? = some (.int .u64 0) ∧ aa.tmps[7]? = some (.int .i64 ((j : Int) - 1)) ∧ Mem (boxC pw #[v1, .func (.func 27) #[.pointer (some ⟨pw, 0, none⟩)] #[], .bool bad] :: rowC 5 1 (v1) (bs.length + (n - j)) ((bs ++ beHi v n (n - j)).map (.int .u8)) :: R) ww ∧ j ≤ n) xx.1 xx.2) (fun xx => (fun (j : Nat) (v1 : Value) => j) xx.1 xx.2) ((n, v0)) ?_ ?_
   ·
    exact ⟨hz2, hd2, g0_2, g1_2, g6_2, g7_2, (by have h := hM2; simpa [beHi] using h), (by omega)⟩
   ·
    clear hz2 hd2 hM2 g0_2 g1_2 g6_2 g7_2
    rintro ⟨j, v1⟩ a3 w3 hI
    dsimp only at hI ⊢
    obtain ⟨hz3, hd3, g0_3, g1_3, g6_3, g7_3, hM3, hi⟩ := hI
    refine wp_seq ?_
    refine wp_seq ?_
    refine region_seq 29 (fun zz e => (#[.int .i64 ((j : Int) - 1), .bool (decide (((j : Int) - 1) ≥ 0))] : Array Value).getD zz undef) (fun k e w => Mem (List.getD [boxC pw #[v1, .func (.func 27) #[.pointer (some ⟨pw, 0, none⟩)] #[], .bool bad] :: rowC 5 1 (v1) (bs.length + (n - j)) ((bs ++ beHi v n (n - j)).map (.int .u8)) :: R] k []) w) (fun _ => (0, undef)) [] [0, 0] (fun _ _ => false) hz3 (by kernel_rfl) (by kernel_rfl) (by kernel_rfl) ?_ (show Mem _ _ from hM3) ?_ ?_
    · exact ⟨fun _ _ _ => rfl, fun _ _ _ => rfl, trivial⟩
    ·
     refine ⟨?_, ?_, trivial⟩
     · exact op2 (a := 0) rfl fun e w ρ (hM : Mem _ w) E => res_ok (x_move rfl (E.o 7 _ rfl g7_3)) (goes_still rfl rfl hM)
     · exact op2 (a := 0) rfl fun e w ρ (hM : Mem _ w) E => res_ok (x_geq rfl (E.d 0 _ 10 rfl rfl rfl) (E.c _) rfl) (goes_still rfl rfl hM)
    ·
     intro e a4 w4 hz4 hd hG hO hM
     have hd4 := hd.trans hd3
     have g0_4 := (hO 0 rfl).trans g0_3
     have g1_4 := (hO 1 rfl).trans g1_3
     have g6_4 := (hO 6 rfl).trans g6_3
     have g7_4 := (hO 7 rfl).trans g7_3
     have g10_4 : a4.tmps[10]? = some (.int .i64 ((j : Int) - 1)) := hG 0 _ 10 rfl rfl
     have g11_4 : a4.tmps[11]? = some (.bool (decide (((j : Int) - 1) ≥ 0))) := hG 1 _ 11 rfl rfl
     have hM4 : Mem (boxC pw #[v1, .func (.func 27) #[.pointer (some ⟨pw, 0, none⟩)] #[], .bool bad] :: rowC 5 1 (v1) (bs.length + (n - j)) ((bs ++ beHi v n (n - j)).map (.int .u8)) :: R) w4 := hM
     clear hM hG hO hd
     clear hz3 hd3 hM3 g0_3 g1_3 g6_3 g7_3
     refine then_n ?_
     by_cases hc1 : ((j : Int) - 1) ≥ 0
     ·
      refine cond_t (g11_4.trans (by rw [decide_eq_true hc1])) ?_
      obtain ⟨m, rfl⟩ : ∃ m : Nat, j = m + 1 := ⟨j - 1, by omega⟩
      have hmn : m < n := by omega
      replace g7_4 : a4.tmps[7]? = some (.int .i64 (m : Int)) := g7_4.trans (by congr 2; omega)
      refine wp_skip ?_
      refine then_n ?_
      refine wp_seq ?_
      refine wp_block ?_
      refine region_draw 29 (fun zz e => (#[.pointer (some ⟨pw, 0, none⟩), .pointer (some ⟨pw, 0, none⟩), .pointer (some ⟨pw, 0, none⟩), .pointer (some ⟨pw, 0, none⟩), v1, .int .u64 v, .int .i64 (m : Int), .int .i64 (8 * (m : Int)), .int .u64 (v / 2 ^ (8 * m)), .int .u8 (byteAt v m), .slice (some ⟨(e 0).1, 0, none⟩) 1 1, (e 1).2, .pointer (some ⟨pw, 0, none⟩), .pointer (some ⟨pw, 0, none⟩), undef] : Array Value).getD zz undef) (fun k e w => Mem (List.getD [boxC pw #[v1, .func (.func 27) #[.pointer (some ⟨pw, 0, none⟩)] #[], .bool bad] :: rowC 5 1 (v1) (bs.length + (n - (m + 1))) ((bs ++ beHi v n (n - (m + 1))).map (.int .u8)) :: R, boxC ((e 0).1) #[.int .u8 (byteAt v m)] :: boxC pw #[v1, .func (.func 27) #[.pointer (some ⟨pw, 0, none⟩)] #[], .bool bad] :: rowC 5 1 (v1) (bs.length + (n - (m + 1))) ((bs ++ beHi v n (n - (m + 1))).map (.int .u8)) :: R, boxC pw #[v1, .func (.func 27) #[.pointer (some ⟨pw, 0, none⟩)] #[], .bool bad] :: rowC 5 1 ((e 1).2) (bs.length + (n - m)) ((bs ++ beHi v n (n - m)).map (.int .u8)) :: R, boxC pw #[(e 1).2, .func (.func 27) #[.pointer (some ⟨pw, 0, none⟩)] #[], .bool bad] :: rowC 5 1 ((e 1).2) (bs.length + (n - m)) ((bs ++ beHi v n (n - m)).map (.int .u8)) :: R] k []) w) (fun _ => (0, undef)) [10, 11, 14] [[], [], [1], [1, 2], [1, 2, 3], [], [], [6], [5, 6, 7], [5, 6, 7, 8], [5, 6, 7, 8, 9], [1, 2, 3, 4, 5, 6, 7, 8, 9, 10], [0, 1, 2, 3, 4, 5, 6, 7, 8, 9, 10, 11], [0, 1, 2, 3, 4, 5, 6, 7, 8, 9, 10, 11, 12], [0, 1, 2, 3, 4, 5, 6, 7, 8, 9, 10, 11, 12, 13]] [0, 0, 0, 0, 0, 0, 0, 0, 0, 0, 0, 1, 2, 2, 2] [2, 1, 1, 1, 1, 0, 0, 0, 0, 0, 0, 1, 2, 2, 2] (fun _ _ => false) hz4 (by kernel_rfl) (by kernel_rfl) (by kernel_rfl) (by kernel_rfl) (by kernel_rfl) ?_ (show Mem _ _ from hM4.drew) ?_ ?_
      · exact ⟨fun _ _ _ => rfl, fun _ _ _ => rfl, fun _ _ _ => rfl, fun _ _ _ => rfl, fun _ _ _ => rfl, fun _ _ _ => rfl, fun _ _ _ => rfl, fun _ _ _ => rfl, fun _ _ _ => rfl, fun _ _ _ => rfl, fun e e' h => congrArg (fun x : Rv => (.slice (some ⟨x.1, 0, none⟩) 1 1 : Value)) (h 0 (by decide)), fun e e' h => congrArg (fun x : Rv => (x.2 : Value)) (h 1 (by decide)), fun _ _ _ => rfl, fun _ _ _ => rfl, fun _ _ _ => rfl, trivial⟩
      ·
       refine ⟨?_, ?_, ?_, ?_, ?_, ?_, ?_, ?_, ?_, ?_, ?_, ?_, ?_, ?_, ?_, trivial⟩
       ·
        intro zk e w ρ zhl zhh hO E
        obtain rfl | rfl | rfl : zk = 0 ∨ zk = 1 ∨ zk = 2 := by have h1 : 0 ≤ zk := zhl; have h2 : zk ≤ 2 := zhh; omega
        ·
         have e0 := E.o 0 _ rfl g0_4
         have hM : Mem _ w := hO
         refine (if_pos rfl).mpr ?_
         exact res_ok (x_move rfl (e0)) (goes_still rfl rfl hM)
        ·
         have e0 := E.o 0 _ rfl g0_4
         have hM : Mem _ w := hO
         refine (if_pos rfl).mpr ?_
         exact res_ok (x_move rfl (e0)) (goes_still rfl rfl hM)
        ·
         have e0 := E.o 0 _ rfl g0_4
         have hM : Mem _ w := hO
         refine (if_pos rfl).mpr ?_
         exact res_ok (x_move rfl (e0)) (goes_still rfl rfl hM)
       ·
        intro zk e w ρ zhl zhh hO E
        obtain rfl | rfl : zk = 0 ∨ zk = 1 := by have h1 : 0 ≤ zk := zhl; have h2 : zk ≤ 1 := zhh; omega
        ·
         have e0 := E.o 0 _ rfl g0_4
         have hM : Mem _ w := hO
         refine (if_pos rfl).mpr ?_
         exact res_ok (x_move rfl (e0)) (goes_still rfl rfl hM)
        ·
         have e0 := E.o 0 _ rfl g0_4
         have hM : Mem _ w := hO
         refine (if_pos rfl).mpr ?_
         exact res_ok (x_move rfl (e0)) (goes_still rfl rfl hM)
       ·
        intro zk e w ρ zhl zhh hO E
        obtain rfl | rfl : zk = 0 ∨ zk = 1 := by have h1 : 0 ≤ zk := zhl; have h2 : zk ≤ 1 := zhh; omega
        ·
         have e15 := E.d 1 _ 15 rfl rfl rfl
         have hM : Mem _ w := hO
         refine (if_pos rfl).mpr ?_
         exact res_ok (x_nil rfl (e15)) (goes_still rfl rfl hM)
        ·
         have e15 := E.d 1 _ 15 rfl rfl rfl
         have hM : Mem _ w := hO
         refine (if_pos rfl).mpr ?_
         exact res_ok (x_nil rfl (e15)) (goes_still rfl rfl hM)
       ·
        intro zk e w ρ zhl zhh hO E
        obtain rfl | rfl : zk = 0 ∨ zk = 1 := by have h1 : 0 ≤ zk := zhl; have h2 : zk ≤ 1 := zhh; omega
        ·
         have e16 := E.d 2 _ 16 rfl rfl rfl
         have hM : Mem _ w := hO
         refine (if_pos rfl).mpr ?_
         exact res_ok (x_fieldAddr (off := 0) rfl (e16) (by kernel_rfl) rfl) (goes_still rfl rfl hM)
        ·
         have e16 := E.d 2 _ 16 rfl rfl rfl
         have hM : Mem _ w := hO
         refine (if_pos rfl).mpr ?_
         exact res_ok (x_fieldAddr (off := 0) rfl (e16) (by kernel_rfl) rfl) (goes_still rfl rfl hM)
       ·
        intro zk e w ρ zhl zhh hO E
        obtain rfl | rfl : zk = 0 ∨ zk = 1 := by have h1 : 0 ≤ zk := zhl; have h2 : zk ≤ 1 := zhh; omega
        ·
         have e17 := E.d 3 _ 17 rfl rfl rfl
         have hM : Mem _ w := hO
         refine (if_pos rfl).mpr ?_
         exact res_ok (x_load rfl (e17) (by kernel_rfl) ((hM.box 0 rfl).cell 0 rfl)) (goes_still rfl rfl hM)
        ·
         have e17 := E.d 3 _ 17 rfl rfl rfl
         have hM : Mem _ w := hO
         refine (if_pos rfl).mpr ?_
         exact res_ok (x_load rfl (e17) (by kernel_rfl) ((hM.box 1 rfl).cell 0 rfl)) (goes_still rfl rfl hM)
       · exact op2 (a := 0) rfl fun e w ρ (hM : Mem _ w) E => res_ok (x_move rfl (E.o 1 _ rfl g1_4)) (goes_still rfl rfl hM)
       · exact op2 (a := 0) rfl fun e w ρ (hM : Mem _ w) E => res_ok (x_move rfl (E.o 7 _ rfl g7_4)) (goes_still rfl rfl hM)
       · exact op2 (a := 0) rfl fun e w ρ (hM : Mem _ w) E => res_ok (x_mul rfl (E.c _) (E.d 6 _ 20 rfl rfl rfl) ((wr_i64 (by omega)).trans (by omega))) (goes_still rfl rfl hM)
       ·
        refine op2 (a := 0) rfl fun e w ρ (hM : Mem _ w) E => ?_
        have e19 : ρ (.tmp 19) = .int .u64 v := E.d 5 _ 19 rfl rfl rfl
        have e21 : ρ (.tmp 21) = .int .i64 (8 * (m : Int)) := E.d 7 _ 21 rfl rfl rfl
        exact res_ok (x_shr (b := 8 * m) rfl (e19) (e21) (show 8 * m ≤ 64 by omega) rfl) (goes_still rfl rfl hM)
       ·
        refine op2 (a := 0) rfl fun e w ρ (hM : Mem _ w) E => ?_
        have e22 : ρ (.tmp 22) = .int .u64 (v / 2 ^ (8 * m)) := E.d 8 _ 22 rfl rfl rfl
        exact res_ok (x_conv rfl (e22) (by kernel_rfl) (by kernel_rfl) (byte_wrap v m)) (goes_still rfl rfl hM)
       ·
        refine op2 (a := 0) rfl fun e w ρ (hM : Mem _ w) E => ?_
        have e23 : ρ (.tmp 23) = .int .u8 (byteAt v m) := E.d 9 _ 23 rfl rfl rfl
        exact res_ok (v := .slice (some ⟨w.heap.size, 0, none⟩) 1 1) (w' := w.alloc (.cells #[.int .u8 (byteAt v m)] 5)) (by simp [go_sem, execOp, Instr.buildSlice, Instr.fill, newRow, e23]) (goes_tick rfl (w.heap.size, undef) rfl (hM.alloc _ _))
       ·
        refine op2 (a := 1) rfl fun e w ρ (hM : Mem _ w) E => ?_
        have e18 : ρ (.tmp 18) = v1 := E.d 4 _ 18 rfl rfl rfl
        have e24 : ρ (.tmp 24) = .slice (some ⟨(e 0).1, 0, none⟩) 1 1 := E.d 10 _ 24 rfl rfl rfl
        have hx : Row w (some ⟨(e 0).1, 0, none⟩) [.int .u8 (byteAt v m)] := row_one ((hM.box 0 rfl).cell 0 rfl)
        obtain ⟨v', w', hr, hm⟩ := Mem.append (P := Try.prog) hM 2 rfl 47 1 (.int .u8 0) Try.underlying47 (by kernel_rfl) rfl (by decide) ⟨(e 0).1, 0, none⟩ 1 1 [.int .u8 (byteAt v m)] hx rfl (by simp [Value.oneCell']) (by unfold maxLen; omega) (by omega)
        exact res_ok (x_append rfl rfl rfl rfl (e18) (e24) hr) (goes_tick rfl (0, v') rfl (by have h := hm.tail; rw [lay_snoc hmn] at h; exact h))
       · exact op2 (a := 2) rfl fun e w ρ (hM : Mem _ w) E => res_ok (x_nil rfl (E.d 0 _ 14 rfl rfl rfl)) (goes_still rfl rfl hM)
       · exact op2 (a := 2) rfl fun e w ρ (hM : Mem _ w) E => res_ok (x_fieldAddr (off := 0) rfl (E.d 12 _ 26 rfl rfl rfl) (by kernel_rfl) rfl) (goes_still rfl rfl hM)
       ·
        refine op2 (a := 2) rfl fun e w ρ (hM : Mem _ w) E => ?_
        have e25 := E.d 11 _ 25 rfl rfl rfl
        have e27 := E.d 13 _ 27 rfl rfl rfl
        have hrc := row_cell (hM.owns 1 rfl)
        obtain ⟨w', hr, hm⟩ := Mem.store (P := Try.prog) hM 0 rfl 47 0 ((e 1).2) [(e 1).2] hrc.1 (by kernel_rfl) (Nat.le_of_ble_eq_true rfl) (by simp [hrc.2])
        exact res_st (x_store rfl (e27) (e25) hr) (goes_tick rfl (0, undef) rfl hm)
      ·
       intro e a5 w5 hz5 hd hG hO hM
       have hd5 := hd.trans hd4
       have g0_5 := (hO 0 rfl).trans g0_4
       have g1_5 := (hO 1 rfl).trans g1_4
       have g6_5 := (hO 6 rfl).trans g6_4
       have g7_5 := (hO 7 rfl).trans g7_4
       have g10_5 := (hO 10 rfl).trans g10_4
       have g11_5 := (hO 11 rfl).trans g11_4
       have g14_5 : a5.tmps[14]? = some (.pointer (some ⟨pw, 0, none⟩)) := hG 0 _ 14 rfl rfl
       have g15_5 : a5.tmps[15]? = some (.pointer (some ⟨pw, 0, none⟩)) := hG 1 _ 15 rfl rfl
       have g16_5 : a5.tmps[16]? = some (.pointer (some ⟨pw, 0, none⟩)) := hG 2 _ 16 rfl rfl
       have g17_5 : a5.tmps[17]? = some (.pointer (some ⟨pw, 0, none⟩)) := hG 3 _ 17 rfl rfl
       have g18_5 : a5.tmps[18]? = some (v1) := hG 4 _ 18 rfl rfl
       have g19_5 : a5.tmps[19]? = some (.int .u64 v) := hG 5 _ 19 rfl rfl
       have g20_5 : a5.tmps[20]? = some (.int .i64 (m : Int)) := hG 6 _ 20 rfl rfl
       have g21_5 : a5.tmps[21]? = some (.int .i64 (8 * (m : Int))) := hG 7 _ 21 rfl rfl
       have g22_5 : a5.tmps[22]? = some (.int .u64 (v / 2 ^ (8 * m))) := hG 8 _ 22 rfl rfl
       have g23_5 : a5.tmps[23]? = some (.int .u8 (byteAt v m)) := hG 9 _ 23 rfl rfl
       have g24_5 : a5.tmps[24]? = some (.slice (some ⟨(e 0).1, 0, none⟩) 1 1) := hG 10 _ 24 rfl rfl
       have g25_5 : a5.tmps[25]? = some ((e 1).2) := hG 11 _ 25 rfl rfl
       have g26_5 : a5.tmps[26]? = some (.pointer (some ⟨pw, 0, none⟩)) := hG 12 _ 26 rfl rfl
       have g27_5 : a5.tmps[27]? = some (.pointer (some ⟨pw, 0, none⟩)) := hG 13 _ 27 rfl rfl
       have hM5 : Mem (boxC pw #[(e 1).2, .func (.func 27) #[.pointer (some ⟨pw, 0, none⟩)] #[], .bool bad] :: rowC 5 1 ((e 1).2) (bs.length + (n - m)) ((bs ++ beHi v n (n - m)).map (.int .u8)) :: R) w5 := hM
       clear hM hG hO hd
       clear hz4 hd4 hM4 g0_4 g1_4 g6_4 g7_4 g10_4 g11_4
       generalize (e 0).1 = b5_0 at *
       generalize (e 1).2 = v5_1 at *
       refine blk_n ?_
       refine then_n ?_
       refine region_seq 29 (fun zz e => (#[.int .i64 (m : Int), .int .i64 ((m : Int) - 1), .int .i64 ((m : Int) - 1)] : Array Value).getD zz undef) (fun k e w => Mem (List.getD [boxC pw #[v5_1, .func (.func 27) #[.pointer (some ⟨pw, 0, none⟩)] #[], .bool bad] :: rowC 5 1 (v5_1) (bs.length + (n - m)) ((bs ++ beHi v n (n - m)).map (.int .u8)) :: R] k []) w) (fun _ => (0, undef)) [] [0, 0, 0] (fun i t => (i == 0 && t == 7)) hz5 (by kernel_rfl) (by kernel_rfl) (by kernel_rfl) ?_ (show Mem _ _ from hM5) ?_ ?_
       · exact ⟨fun _ _ _ => rfl, fun _ _ _ => rfl, fun _ _ _ => rfl, trivial⟩
       ·
        refine ⟨?_, ?_, ?_, trivial⟩
        · exact op2 (a := 0) rfl fun e w ρ (hM : Mem _ w) E => res_ok (x_move rfl (E.o 7 _ rfl g7_5)) (goes_still rfl rfl hM)
        · exact op2 (a := 0) rfl fun e w ρ (hM : Mem _ w) E => res_ok (x_sub rfl (E.d 0 _ 12 rfl rfl rfl) (E.c _) ((wr_i64 (by omega)).trans (by omega))) (goes_still rfl rfl hM)
        · exact op2 (a := 0) rfl fun e w ρ (hM : Mem _ w) E => res_ok (x_assign rfl (E.d 1 _ 13 rfl rfl rfl)) (goes_still rfl rfl hM)
       ·
        intro e a6 w6 hz6 hd hG hO hM
        have hd6 := hd.trans hd5
        have g0_6 := (hO 0 rfl).trans g0_5
        have g1_6 := (hO 1 rfl).trans g1_5
        have g6_6 := (hO 6 rfl).trans g6_5
        have g7_6 : a6.tmps[7]? = some (.int .i64 ((m : Int) - 1)) := hG 2 _ 7 rfl rfl
        have g10_6 := (hO 10 rfl).trans g10_5
        have g11_6 := (hO 11 rfl).trans g11_5
        have g12_6 : a6.tmps[12]? = some (.int .i64 (m : Int)) := hG 0 _ 12 rfl rfl
        have g13_6 : a6.tmps[13]? = some (.int .i64 ((m : Int) - 1)) := hG 1 _ 13 rfl rfl
        have g14_6 := (hO 14 rfl).trans g14_5
        have g15_6 := (hO 15 rfl).trans g15_5
        have g16_6 := (hO 16 rfl).trans g16_5
        have g17_6 := (hO 17 rfl).trans g17_5
        have g18_6 := (hO 18 rfl).trans g18_5
        have g19_6 := (hO 19 rfl).trans g19_5
        have g20_6 := (hO 20 rfl).trans g20_5
        have g21_6 := (hO 21 rfl).trans g21_5
        have g22_6 := (hO 22 rfl).trans g22_5
        have g23_6 := (hO 23 rfl).trans g23_5
        have g24_6 := (hO 24 rfl).trans g24_5
        have g25_6 := (hO 25 rfl).trans g25_5
        have g26_6 := (hO 26 rfl).trans g26_5
        have g27_6 := (hO 27 rfl).trans g27_5
        have hM6 : Mem (boxC pw #[v5_1, .func (.func 27) #[.pointer (some ⟨pw, 0, none⟩)] #[], .bool bad] :: rowC 5 1 (v5_1) (bs.length + (n - m)) ((bs ++ beHi v n (n - m)).map (.int .u8)) :: R) w6 := hM
        clear hM hG hO hd
        clear hz5 hd5 hM5 g0_5 g1_5 g6_5 g7_5 g10_5 g11_5 g14_5 g15_5 g16_5 g17_5 g18_5 g19_5 g20_5 g21_5 g22_5 g23_5 g24_5 g25_5 g26_5 g27_5
        refine then_n ?_
        exact ⟨(m, v5_1), by omega, ⟨hz6, hd6, g0_6, g1_6, g6_6, g7_6, (hM6), (by omega)⟩⟩
     ·
      refine cond_f (g11_4.trans (by rw [decide_eq_false hc1])) ?_
      obtain rfl : j = 0 := by omega
      refine wp_exit ?_
      refine then_x ?_
      refine then_x ?_
      refine blk_x ?_
      refine then_n ?_
      refine wp_seq ?_
      refine region_seq 29 (fun zz e => (#[.int .u64 v, .int .u64 v] : Array Value).getD zz undef) (fun k e w => Mem (List.getD [boxC pw #[v1, .func (.func 27) #[.pointer (some ⟨pw, 0, none⟩)] #[], .bool bad] :: rowC 5 1 (v1) (bs.length + (n - 0)) ((bs ++ beHi v n (n - 0)).map (.int .u8)) :: R] k []) w) (fun _ => (0, undef)) [] [0, 0] (fun _ _ => false) hz4 (by kernel_rfl) (by kernel_rfl) (by kernel_rfl) ?_ (show Mem _ _ from hM4) ?_ ?_
      · exact ⟨fun _ _ _ => rfl, fun _ _ _ => rfl, trivial⟩
      ·
       refine ⟨?_, ?_, trivial⟩
       · exact op2 (a := 0) rfl fun e w ρ (hM : Mem _ w) E => res_ok (x_move rfl (E.o 1 _ rfl g1_4)) (goes_still rfl rfl hM)
       · exact op2 (a := 0) rfl fun e w ρ (hM : Mem _ w) E => res_ok (x_assign rfl (E.d 0 _ 28 rfl rfl rfl)) (goes_still rfl rfl hM)
      ·
       intro e a7 w7 hz7 hd hG hO hM
       have hd7 := hd.trans hd4
       have g6_7 : a7.tmps[6]? = some (.int .u64 v) := hG 1 _ 6 rfl rfl
       have hM7 : Mem (boxC pw #[v1, .func (.func 27) #[.pointer (some ⟨pw, 0, none⟩)] #[], .bool bad] :: rowC 5 1 (v1) (bs.length + (n - 0)) ((bs ++ beHi v n (n - 0)).map (.int .u8)) :: R) w7 := hM
       clear hM hG hO hd
       clear hz4 hd4 hM4 g0_4 g1_4 g6_4 g7_4 g10_4 g11_4
       refine then_n ?_
       refine wp_ret ?_
       refine ret_1 Try.results27 hd7 g6_7 ?_
       exact ⟨_, rfl, by have h := hM7; simpa [be] using h⟩
theorem InSlice.nil {D : Chunk} : InSlice D (.slice none 0 0) [] := ⟨none, 0, rfl, Nat.le_refl _, fun _ _ _ => Row.nil, fun _ => rfl, fun x h => by cases h⟩
theorem num_few {D : Chunk} {bad : Bool} {bs : List Int} {v : Int} {n : Nat} (h : bs.length < n) : num (.take D) ⟨bad, bs⟩ v n = (0, ⟨true, []⟩) := if_pos h
theorem num_take {D : Chunk} {bad : Bool} {bs : List Int} {v : Int} {n : Nat} (h : ¬ bs.length < n) : num (.take D) ⟨bad, bs⟩ v n = (valOf (bs.take n), ⟨bad, bs.drop n⟩) := if_neg h
theorem valOf_lt {l : List Int} {i : Nat} (h : 0 ≤ valOf l ∧ valOf l < 256 ^ l.length) (hl : l.length ≤ i) (h7 : i ≤ 7) : valOf l < 72057594037927936 := by
 have h2 := h.2
 have h3 : l.length ≤ 7 := by omega
 clear h hl
 generalize l.length = q at h2 h3
 rcases (by omega : q = 0 ∨ q = 1 ∨ q = 2 ∨ q = 3 ∨ q = 4 ∨ q = 5 ∨ q = 6 ∨ q = 7) with rfl | rfl | rfl | rfl | rfl | rfl | rfl | rfl <;> (simp at h2; omega)
theorem cell_of {D A : Chunk} {R : List Chunk} {w : World} {b off : Nat} {bs : List Int} {i : Nat} {x : Int} (hR : Rd D (some ⟨b, off, none⟩) (bs.map (.int .u8))) (hM : Mem (A :: D :: R) w) (hx : bs[i]? = some x) : w.cell? ⟨b, off + i, none⟩ = some (.int .u8 x) := by
 obtain ⟨b', off', e, hc⟩ := (hR.row hM 1 rfl) i (by rw [List.length_map]; exact (List.getElem?_eq_some_iff.1 hx).1)
 cases e
 rw [hc, List.getD_eq_getElem?_getD, List.getElem?_map, hx]; rfl
theorem row_drop {w : World} {a : Option Addr} {xs : List Value} (h : Row w a xs) (n : Nat) : Row w (a.map (·.add n)) (xs.drop n) := fun i hi => by
 rw [List.length_drop] at hi
 obtain ⟨b, off, rfl, hc⟩ := h (n + i) (by omega)
 refine ⟨b, off + n, by simp [addr_add], ?_⟩
 rw [Nat.add_assoc, hc, List.getD_eq_getElem?_getD, List.getD_eq_getElem?_getD, List.getElem?_drop]
theorem inSlice_drop {D : Chunk} {a : Option Addr} {bs : List Int} {c n : Nat} (hR : Rd D a (bs.map (.int .u8))) (hlc : bs.length ≤ c) (hac : a = none → c = 0) (hin : ∀ x ∈ bs, 0 ≤ x ∧ x ≤ 255) (hn : n ≤ bs.length) : InSlice D (.slice (if c = n then a else a.map (·.add (n * 1))) (bs.length - n) (c - n)) (bs.drop n) := by
 refine ⟨_, _, by rw [List.length_drop], by rw [List.length_drop]; omega, fun S w hw => ?_, fun h => ?_, fun x hx => hin x (List.mem_of_mem_drop hx)⟩
 ·
  by_cases e : c = n
  ·
   have : bs.drop n = [] := List.drop_eq_nil_of_le (by omega)
   rw [this]; exact Row.nil
  · rw [if_neg e, Nat.mul_one, List.map_drop]; exact row_drop (hR S w hw) n
 ·
  by_cases e : c = n
  · omega
  ·
   rw [if_neg e] at h
   cases a with
   | some a => cases h
   | none => have := hac rfl; omega
set_option maxRecDepth 100000 in
set_option maxHeartbeats 2000000 in
theorem take_at (pw : Nat) (bad : Bool) (a : Option Addr) (c : Nat) (bs : List Int) (v : Int) (n : Nat) (D : Chunk) (R : List Chunk) (w : World) (hM : Mem (boxC pw #[.slice a bs.length c, .func (.func 32) #[.pointer (some ⟨pw, 0, none⟩)] #[], .bool bad] :: D :: R) w) (hR : Rd D a (bs.map (.int .u8))) (hlc : bs.length ≤ c) (hac : a = none → c = 0) (hin : ∀ x ∈ bs, 0 ≤ x ∧ x ≤ 255) (hn : 1 ≤ n ∧ n ≤ 8) (hb : bs.length ≤ 1000000) :
  Calls Try.prog 32 #[.pointer (some ⟨pw, 0, none⟩), .int .u64 v, .int .i64 n] w fun e w' => ∃ v1, e = .returned (.int .u64 (num (.take D) ⟨bad, bs⟩ v n).1) ∧ InSlice D v1 (num (.take D) ⟨bad, bs⟩ v n).2.bs ∧ Mem (boxC pw #[v1, .func (.func 32) #[.pointer (some ⟨pw, 0, none⟩)] #[], .bool (num (.take D) ⟨bad, bs⟩ v n).2.bad] :: D :: R) w' := by
 refine enter Try.func32 rfl Try.ntmps32 (Nat.le_of_ble_eq_true rfl) ?_
 intro a0 hz0 hd0 hg0
 have g0_0 : a0.tmps[0]? = some (.pointer (some ⟨pw, 0, none⟩)) := hg0 0 _ rfl
 have g1_0 : a0.tmps[1]? = some (.int .u64 v) := hg0 1 _ rfl
 have g2_0 : a0.tmps[2]? = some (.int .i64 (n : Int)) := hg0 2 _ rfl
 clear hg0
 have hM0 : Mem (boxC pw #[.slice a bs.length c, .func (.func 32) #[.pointer (some ⟨pw, 0, none⟩)] #[], .bool bad] :: D :: R) _ := hM
 refine wp_seq ?_
 refine region_seq 50 (fun zz e => (#[.int .u64 0] : Array Value).getD zz undef) (fun k e w => Mem (List.getD [boxC pw #[.slice a bs.length c, .func (.func 32) #[.pointer (some ⟨pw, 0, none⟩)] #[], .bool bad] :: D :: R] k []) w) (fun _ => (0, undef)) [] [0] (fun _ _ => false) hz0 (by kernel_rfl) (by kernel_rfl) (by kernel_rfl) ?_ (show Mem _ _ from hM0) ?_ ?_
 · exact ⟨fun _ _ _ => rfl, trivial⟩
 ·
  refine ⟨?_, trivial⟩
  · exact op2 (a := 0) rfl fun e w ρ (hM : Mem _ w) E => res_ok (x_assign rfl (E.c _)) (goes_still rfl rfl hM)
 ·
  intro e a1 w1 hz1 hd hG hO hM
  have hd1 := hd.trans hd0
  have g0_1 := (hO 0 rfl).trans g0_0
  have g2_1 := (hO 2 rfl).trans g2_0
  have g6_1 : a1.tmps[6]? = some (.int .u64 0) := hG 0 _ 6 rfl rfl
  have hM1 : Mem (boxC pw #[.slice a bs.length c, .func (.func 32) #[.pointer (some ⟨pw, 0, none⟩)] #[], .bool bad] :: D :: R) w1 := hM
  clear hM hG hO hd
  clear hz0 hd0 hM0 g0_0 g1_0 g2_0
  refine then_n ?_
  refine wp_seq ?_
  refine wp_seq ?_
  refine region_seq 50 (fun zz e => (#[.int .i64 (n : Int), .pointer (some ⟨pw, 0, none⟩), .pointer (some ⟨pw, 0, none⟩), .pointer (some ⟨pw, 0, none⟩), .slice a bs.length c, .int .i64 (bs.length : Int), .bool (decide ((n : Int) > (bs.length : Int)))] : Array Value).getD zz undef) (fun k e w => Mem (List.getD [boxC pw #[.slice a bs.length c, .func (.func 32) #[.pointer (some ⟨pw, 0, none⟩)] #[], .bool bad] :: D :: R] k []) w) (fun _ => (0, undef)) [] [0, 0, 0, 0, 0, 0, 0] (fun _ _ => false) hz1 (by kernel_rfl) (by kernel_rfl) (by kernel_rfl) ?_ (show Mem _ _ from hM1) ?_ ?_
  · exact ⟨fun _ _ _ => rfl, fun _ _ _ => rfl, fun _ _ _ => rfl, fun _ _ _ => rfl, fun _ _ _ => rfl, fun _ _ _ => rfl, fun _ _ _ => rfl, trivial⟩
  ·
   refine ⟨?_, ?_, ?_, ?_, ?_, ?_, ?_, trivial⟩
   · exact op2 (a := 0) rfl fun e w ρ (hM : Mem _ w) E => res_ok (x_move rfl (E.o 2 _ rfl g2_1)) (goes_still rfl rfl hM)
   · exact op2 (a := 0) rfl fun e w ρ (hM : Mem _ w) E => res_ok (x_move rfl (E.o 0 _ rfl g0_1)) (goes_still rfl rfl hM)
   · exact op2 (a := 0) rfl fun e w ρ (hM : Mem _ w) E => res_ok (x_nil rfl (E.d 1 _ 11 rfl rfl rfl)) (goes_still rfl rfl hM)
   · exact op2 (a := 0) rfl fun e w ρ (hM : Mem _ w) E => res_ok (x_fieldAddr (off := 0) rfl (E.d 2 _ 12 rfl rfl rfl) (by kernel_rfl) rfl) (goes_still rfl rfl hM)
   · exact op2 (a := 0) rfl fun e w ρ (hM : Mem _ w) E => res_ok (x_load rfl (E.d 3 _ 13 rfl rfl rfl) (by kernel_rfl) ((hM.box 0 rfl).cell 0 rfl)) (goes_still rfl rfl hM)
   ·
    refine op2 (a := 0) rfl fun e w ρ (hM : Mem _ w) E => ?_
    have e14 : ρ (.tmp 14) = .slice a bs.length c := E.d 4 _ 14 rfl rfl rfl
    exact res_ok (x_len (n := 1) rfl rfl rfl rfl (e14) (by kernel_rfl)) (goes_still rfl rfl hM)
   · exact op2 (a := 0) rfl fun e w ρ (hM : Mem _ w) E => res_ok (x_gtr rfl (E.d 0 _ 10 rfl rfl rfl) (E.d 5 _ 15 rfl rfl rfl) rfl) (goes_still rfl rfl hM)
  ·
   intro e a2 w2 hz2 hd hG hO hM
   have hd2 := hd.trans hd1
   have g0_2 := (hO 0 rfl).trans g0_1
   have g2_2 := (hO 2 rfl).trans g2_1
   have g6_2 := (hO 6 rfl).trans g6_1
   have g16_2 : a2.tmps[16]? = some (.bool (decide ((n : Int) > (bs.length : Int)))) := hG 6 _ 16 rfl rfl
   have hM2 : Mem (boxC pw #[.slice a bs.length c, .func (.func 32) #[.pointer (some ⟨pw, 0, none⟩)] #[], .bool bad] :: D :: R) w2 := hM
   clear hM hG hO hd
   clear hz1 hd1 hM1 g0_1 g2_1 g6_1
   refine then_n ?_
   by_cases hc1 : (n : Int) > (bs.length : Int)
   ·
    refine cond_t (g16_2.trans (by rw [decide_eq_true hc1])) ?_
    refine wp_seq ?_
    refine region_seq 50 (fun zz e => (#[.pointer (some ⟨pw, 0, none⟩), .pointer (some ⟨pw, 0, none⟩), .pointer (some ⟨pw, 0, none⟩), .pointer (some ⟨pw, 2, none⟩), undef, .pointer (some ⟨pw, 0, none⟩), .pointer (some ⟨pw, 0, none⟩), undef] : Array Value).getD zz undef) (fun k e w => Mem (List.getD [boxC pw #[.slice a bs.length c, .func (.func 32) #[.pointer (some ⟨pw, 0, none⟩)] #[], .bool bad] :: D :: R, boxC pw #[.slice a bs.length c, .func (.func 32) #[.pointer (some ⟨pw, 0, none⟩)] #[], .bool true] :: D :: R, boxC pw #[.slice none 0 0, .func (.func 32) #[.pointer (some ⟨pw, 0, none⟩)] #[], .bool true] :: D :: R] k []) w) (fun _ => (0, undef)) [4, 7] [0, 0, 0, 0, 0, 1, 1, 1] (fun _ _ => false) hz2 (by kernel_rfl) (by kernel_rfl) (by kernel_rfl) ?_ (show Mem _ _ from hM2) ?_ ?_
    · exact ⟨fun _ _ _ => rfl, fun _ _ _ => rfl, fun _ _ _ => rfl, fun _ _ _ => rfl, fun _ _ _ => rfl, fun _ _ _ => rfl, fun _ _ _ => rfl, fun _ _ _ => rfl, trivial⟩
    ·
     refine ⟨?_, ?_, ?_, ?_, ?_, ?_, ?_, ?_, trivial⟩
     · exact op2 (a := 0) rfl fun e w ρ (hM : Mem _ w) E => res_ok (x_move rfl (E.o 0 _ rfl g0_2)) (goes_still rfl rfl hM)
     · exact op2 (a := 0) rfl fun e w ρ (hM : Mem _ w) E => res_ok (x_move rfl (E.o 0 _ rfl g0_2)) (goes_still rfl rfl hM)
     · exact op2 (a := 0) rfl fun e w ρ (hM : Mem _ w) E => res_ok (x_nil rfl (E.d 0 _ 17 rfl rfl rfl)) (goes_still rfl rfl hM)
     · exact op2 (a := 0) rfl fun e w ρ (hM : Mem _ w) E => res_ok (x_fieldAddr (off := 2) rfl (E.d 2 _ 19 rfl rfl rfl) (by kernel_rfl) rfl) (goes_still rfl rfl hM)
     ·
      refine op2 (a := 0) rfl fun e w ρ (hM : Mem _ w) E => ?_
      have e20 := E.d 3 _ 20 rfl rfl rfl
      obtain ⟨w', hr, hm⟩ := Mem.store (P := Try.prog) hM 0 rfl 4 2 (.bool true) [.bool true] rfl (by kernel_rfl) (Nat.le_of_ble_eq_true rfl) (by rfl)
      exact res_st (x_store rfl (e20) (E.c _) hr) (goes_tick rfl (0, undef) rfl hm)
     · exact op2 (a := 1) rfl fun e w ρ (hM : Mem _ w) E => res_ok (x_nil rfl (E.d 1 _ 18 rfl rfl rfl)) (goes_still rfl rfl hM)
     · exact op2 (a := 1) rfl fun e w ρ (hM : Mem _ w) E => res_ok (x_fieldAddr (off := 0) rfl (E.d 5 _ 21 rfl rfl rfl) (by kernel_rfl) rfl) (goes_still rfl rfl hM)
     ·
      refine op2 (a := 1) rfl fun e w ρ (hM : Mem _ w) E => ?_
      have e22 := E.d 6 _ 22 rfl rfl rfl
      obtain ⟨w', hr, hm⟩ := Mem.store (P := Try.prog) hM 0 rfl 47 0 (.slice none 0 0) [.slice none 0 0] rfl (by kernel_rfl) (Nat.le_of_ble_eq_true rfl) (by rfl)
      exact res_st (x_store rfl (e22) (E.c _) hr) (goes_tick rfl (0, undef) rfl hm)
    ·
     intro e a3 w3 hz3 hd hG hO hM
     have hd3 := hd.trans hd2
     have g0_3 := (hO 0 rfl).trans g0_2
     have g2_3 := (hO 2 rfl).trans g2_2
     have g6_3 := (hO 6 rfl).trans g6_2
     have hM3 : Mem (boxC pw #[.slice none 0 0, .func (.func 32) #[.pointer (some ⟨pw, 0, none⟩)] #[], .bool true] :: D :: R) w3 := hM
     clear hM hG hO hd
     clear hz2 hd2 hM2 g0_2 g2_2 g6_2 g16_2
     refine then_n ?_
     refine wp_seq ?_
     refine region_seq 50 (fun zz e => (#[.int .u64 0] : Array Value).getD zz undef) (fun k e w => Mem (List.getD [boxC pw #[.slice none 0 0, .func (.func 32) #[.pointer (some ⟨pw, 0, none⟩)] #[], .bool true] :: D :: R] k []) w) (fun _ => (0, undef)) [] [0] (fun _ _ => false) hz3 (by kernel_rfl) (by kernel_rfl) (by kernel_rfl) ?_ (show Mem _ _ from hM3) ?_ ?_
     · exact ⟨fun _ _ _ => rfl, trivial⟩
     ·
      refine ⟨?_, trivial⟩
      · exact op2 (a := 0) rfl fun e w ρ (hM : Mem _ w) E => res_ok (x_assign rfl (E.c _)) (goes_still rfl rfl hM)
     ·
      intro e a4 w4 hz4 hd hG hO hM
      have hd4 := hd.trans hd3
      have g0_4 := (hO 0 rfl).trans g0_3
      have g2_4 := (hO 2 rfl).trans g2_3
      have g6_4 : a4.tmps[6]? = some (.int .u64 0) := hG 0 _ 6 rfl rfl
      have hM4 : Mem (boxC pw #[.slice none 0 0, .func (.func 32) #[.pointer (some ⟨pw, 0, none⟩)] #[], .bool true] :: D :: R) w4 := hM
      clear hM hG hO hd
      clear hz3 hd3 hM3 g0_3 g2_3 g6_3
      refine then_n ?_
      refine wp_ret ?_
      refine then_r ?_
      refine ret_1 Try.results32 hd4 g6_4 ?_
      refine ⟨_, (by rw [num_few (by omega)]), ?_, by have h := hM4; rw [num_few (by omega)]; exact h⟩
      rw [num_few (by omega)]; exact InSlice.nil
   ·
    refine cond_f (g16_2.trans (by rw [decide_eq_false hc1])) ?_
    obtain ⟨b, off, rfl, -⟩ := (hR.row hM2 1 rfl) 0 (by rw [List.length_map]; omega)
    refine wp_skip ?_
    refine then_n ?_
    refine wp_seq ?_
    refine region_seq 50 (fun zz e => (#[.int .u64 0] : Array Value).getD zz undef) (fun k e w => Mem (List.getD [boxC pw #[.slice (some ⟨b, off, none⟩) bs.length c, .func (.func 32) #[.pointer (some ⟨pw, 0, none⟩)] #[], .bool bad] :: D :: R] k []) w) (fun _ => (0, undef)) [] [0] (fun _ _ => false) hz2 (by kernel_rfl) (by kernel_rfl) (by kernel_rfl) ?_ (show Mem _ _ from hM2) ?_ ?_
    · exact ⟨fun _ _ _ => rfl, trivial⟩
    ·
     refine ⟨?_, trivial⟩
     · exact op2 (a := 0) rfl fun e w ρ (hM : Mem _ w) E => res_ok (x_assign rfl (E.c _)) (goes_still rfl rfl hM)
    ·
     intro e a5 w5 hz5 hd hG hO hM
     have hd5 := hd.trans hd2
     have g0_5 := (hO 0 rfl).trans g0_2
     have g2_5 := (hO 2 rfl).trans g2_2
     have g6_5 := (hO 6 rfl).trans g6_2
     have g7_5 : a5.tmps[7]? = some (.int .u64 0) := hG 0 _ 7 rfl rfl
     have hM5 : Mem (boxC pw #[.slice (some ⟨b, off, none⟩) bs.length c, .func (.func 32) #[.pointer (some ⟨pw, 0, none⟩)] #[], .bool bad] :: D :: R) w5 := hM
     clear hM hG hO hd
     clear hz2 hd2 hM2 g0_2 g2_2 g6_2 g16_2
     refine then_n ?_
     refine wp_seq ?_
     refine wp_seq ?_
     refine region_seq 50 (fun zz e => (#[.pointer (some ⟨pw, 0, none⟩), .pointer (some ⟨pw, 0, none⟩), .pointer (some ⟨pw, 0, none⟩), .slice (some ⟨b, off, none⟩) bs.length c, .int .i64 (n : Int), .slice (some ⟨b, off, none⟩) n c, .int .i64 (n : Int), .int .i64 0] : Array Value).getD zz undef) (fun k e w => Mem (List.getD [boxC pw #[.slice (some ⟨b, off, none⟩) bs.length c, .func (.func 32) #[.pointer (some ⟨pw, 0, none⟩)] #[], .bool bad] :: D :: R] k []) w) (fun _ => (0, undef)) [] [0, 0, 0, 0, 0, 0, 0, 0] (fun _ _ => false) hz5 (by kernel_rfl) (by kernel_rfl) (by kernel_rfl) ?_ (show Mem _ _ from hM5) ?_ ?_
     · exact ⟨fun _ _ _ => rfl, fun _ _ _ => rfl, fun _ _ _ => rfl, fun _ _ _ => rfl, fun _ _ _ => rfl, fun _ _ _ => rfl, fun _ _ _ => rfl, fun _ _ _ => rfl, trivial⟩
     ·
      refine ⟨?_, ?_, ?_, ?_, ?_, ?_, ?_, ?_, trivial⟩
      · exact op2 (a := 0) rfl fun e w ρ (hM : Mem _ w) E => res_ok (x_move rfl (E.o 0 _ rfl g0_5)) (goes_still rfl rfl hM)
      · exact op2 (a := 0) rfl fun e w ρ (hM : Mem _ w) E => res_ok (x_nil rfl (E.d 0 _ 23 rfl rfl rfl)) (goes_still rfl rfl hM)
      · exact op2 (a := 0) rfl fun e w ρ (hM : Mem _ w) E => res_ok (x_fieldAddr (off := 0) rfl (E.d 1 _ 24 rfl rfl rfl) (by kernel_rfl) rfl) (goes_still rfl rfl hM)
      · exact op2 (a := 0) rfl fun e w ρ (hM : Mem _ w) E => res_ok (x_load rfl (E.d 2 _ 25 rfl rfl rfl) (by kernel_rfl) ((hM.box 0 rfl).cell 0 rfl)) (goes_still rfl rfl hM)
      · exact op2 (a := 0) rfl fun e w ρ (hM : Mem _ w) E => res_ok (x_move rfl (E.o 2 _ rfl g2_5)) (goes_still rfl rfl hM)
      ·
       refine op2 (a := 0) rfl fun e w ρ (hM : Mem _ w) E => ?_
       have e26 : ρ (.tmp 26) = .slice (some ⟨b, off, none⟩) bs.length c := E.d 3 _ 26 rfl rfl rfl
       have e27 : ρ (.tmp 27) = .int .i64 (n : Int) := E.d 4 _ 27 rfl rfl rfl
       exact res_ok (x_sliceHi (n := 1) rfl (e26) (e27) (by kernel_rfl) (by omega)) (goes_still rfl rfl hM)
      ·
       refine op2 (a := 0) rfl fun e w ρ (hM : Mem _ w) E => ?_
       have e28 : ρ (.tmp 28) = .slice (some ⟨b, off, none⟩) n c := E.d 5 _ 28 rfl rfl rfl
       exact res_ok (x_len (n := 1) rfl rfl rfl rfl (e28) (by kernel_rfl)) (goes_still rfl rfl hM)
      · exact op2 (a := 0) rfl fun e w ρ (hM : Mem _ w) E => res_ok (x_move rfl (E.c _)) (goes_still rfl rfl hM)
     ·
      intro e a6 w6 hz6 hd hG hO hM
      have hd6 := hd.trans hd5
      have g0_6 := (hO 0 rfl).trans g0_5
      have g2_6 := (hO 2 rfl).trans g2_5
      have g6_6 := (hO 6 rfl).trans g6_5
      have g7_6 := (hO 7 rfl).trans g7_5
      have g28_6 : a6.tmps[28]? = some (.slice (some ⟨b, off, none⟩) n c) := hG 5 _ 28 rfl rfl
      have g29_6 : a6.tmps[29]? = some (.int .i64 (n : Int)) := hG 6 _ 29 rfl rfl
      have g30_6 : a6.tmps[30]? = some (.int .i64 0) := hG 7 _ 30 rfl rfl
      have hM6 : Mem (boxC pw #[.slice (some ⟨b, off, none⟩) bs.length c, .func (.func 32) #[.pointer (some ⟨pw, 0, none⟩)] #[], .bool bad] :: D :: R) w6 := hM
      clear hM hG hO hd
      clear hz5 hd5 hM5 g0_5 g2_5 g6_5 g7_5
      refine then_n ?_
      refine wp_block ?_
      refine loopx (X := Nat) (fun i aa ww => aa.tmps.size = 50 ∧ aa.defers = [] ∧ aa.tmps[0]? = some (.pointer (some ⟨pw, 0, none⟩)) ∧ aa.tmps[2]? = some (.int .i64 (n : Int)) ∧ aa.tmps[6]? = some (.int .u64 0) ∧ aa.tmps[7]? = some (.int .u64 (valOf (bs.take i))) ∧ aa.tmps[28]? = some (.slice (some ⟨b, off, none⟩) n c) ∧ aa.tmps[29]? = some (.int .i64 (n : Int)) ∧ aa.tmps[30]? = some (.int .i64 (i : Int)) ∧ Mem (boxC pw #[.slice (some ⟨b, off, none⟩) bs.length c, .func (.func 32) #[.pointer (some ⟨pw, 0, none⟩)] #[], .bool bad] :: D :: R) ww ∧ i ≤ n) (fun i => n - i) (0) ?_ ?_
      ·
       exact ⟨hz6, hd6, g0_6, g2_6, g6_6, (by have h := g7_6; exact h), g28_6, g29_6, (by have h := g30_6; exact h.trans (by congr 2 <;> first | rfl | omega)), (hM6), (by omega)⟩
      ·
       clear hz6 hd6 hM6 g0_6 g2_6 g6_6 g7_6 g28_6 g29_6 g30_6
       rintro i a7 w7 hI
       obtain ⟨hz7, hd7, g0_7, g2_7, g6_7, g7_7, g28_7, g29_7, g30_7, hM7, hi⟩ := hI
       have hvi := valOf_in (bs.take i).length (bs.take i) rfl (fun x hx => hin x (List.mem_of_mem_take hx))
       have hvl := valOf_lt hvi (show (bs.take i).length ≤ i from List.length_take_le _ _)
       refine wp_seq ?_
       refine region_seq 50 (fun zz e => (#[.bool (decide ((i : Int) < (n : Int)))] : Array Value).getD zz undef) (fun k e w => Mem (List.getD [boxC pw #[.slice (some ⟨b, off, none⟩) bs.length c, .func (.func 32) #[.pointer (some ⟨pw, 0, none⟩)] #[], .bool bad] :: D :: R] k []) w) (fun _ => (0, undef)) [] [0] (fun _ _ => false) hz7 (by kernel_rfl) (by kernel_rfl) (by kernel_rfl) ?_ (show Mem _ _ from hM7) ?_ ?_
       · exact ⟨fun _ _ _ => rfl, trivial⟩
       ·
        refine ⟨?_, trivial⟩
        · exact op2 (a := 0) rfl fun e w ρ (hM : Mem _ w) E => res_ok (x_lss rfl (E.o 30 _ rfl g30_7) (E.o 29 _ rfl g29_7) rfl) (goes_still rfl rfl hM)
       ·
        intro e a8 w8 hz8 hd hG hO hM
        have hd8 := hd.trans hd7
        have g0_8 := (hO 0 rfl).trans g0_7
        have g2_8 := (hO 2 rfl).trans g2_7
        have g6_8 := (hO 6 rfl).trans g6_7
        have g7_8 := (hO 7 rfl).trans g7_7
        have g28_8 := (hO 28 rfl).trans g28_7
        have g29_8 := (hO 29 rfl).trans g29_7
        have g30_8 := (hO 30 rfl).trans g30_7
        have g31_8 : a8.tmps[31]? = some (.bool (decide ((i : Int) < (n : Int)))) := hG 0 _ 31 rfl rfl
        have hM8 : Mem (boxC pw #[.slice (some ⟨b, off, none⟩) bs.length c, .func (.func 32) #[.pointer (some ⟨pw, 0, none⟩)] #[], .bool bad] :: D :: R) w8 := hM
        clear hM hG hO hd
        clear hz7 hd7 hM7 g0_7 g2_7 g6_7 g7_7 g28_7 g29_7 g30_7
        refine then_n ?_
        refine wp_seq ?_
        by_cases hc2 : (i : Int) < (n : Int)
        ·
         refine cond_t (g31_8.trans (by rw [decide_eq_true hc2])) ?_
         obtain ⟨x, hx⟩ : ∃ x, bs[i]? = some x := ⟨_, List.getElem?_eq_getElem (by omega)⟩
         have hxi := hin x (List.mem_of_getElem? hx)
         have hv7 := hvl (show i ≤ 7 by omega)
         have hts : valOf (bs.take (i + 1)) = valOf (bs.take i) * 256 + x := by rw [List.take_add_one, hx]; exact valOf_snoc _ _
         have hcell : ∀ w, Mem (boxC pw #[.slice (some ⟨b, off, none⟩) bs.length c, .func (.func 32) #[.pointer (some ⟨pw, 0, none⟩)] #[], .bool bad] :: D :: R) w → w.cell? ⟨b, off + i, none⟩ = some (.int .u8 x) := fun w hM => cell_of hR hM hx
         refine wp_skip ?_
         refine then_n ?_
         refine wp_seq ?_
         refine wp_block ?_
         refine wp_seq ?_
         refine region_seq 50 (fun zz e => (#[.pointer (some ⟨b, off + i * 1, none⟩), .int .u8 x, .int .u8 x] : Array Value).getD zz undef) (fun k e w => Mem (List.getD [boxC pw #[.slice (some ⟨b, off, none⟩) bs.length c, .func (.func 32) #[.pointer (some ⟨pw, 0, none⟩)] #[], .bool bad] :: D :: R] k []) w) (fun _ => (0, undef)) [] [0, 0, 0] (fun _ _ => false) hz8 (by kernel_rfl) (by kernel_rfl) (by kernel_rfl) ?_ (show Mem _ _ from hM8) ?_ ?_
         · exact ⟨fun _ _ _ => rfl, fun _ _ _ => rfl, fun _ _ _ => rfl, trivial⟩
         ·
          refine ⟨?_, ?_, ?_, trivial⟩
          ·
           refine op2 (a := 0) rfl fun e w ρ (hM : Mem _ w) E => ?_
           have e28 : ρ (.tmp 28) = .slice (some ⟨b, off, none⟩) n c := E.o 28 _ rfl g28_8
           have e30 : ρ (.tmp 30) = .int .i64 (i : Int) := E.o 30 _ rfl g30_8
           exact res_ok (x_idx (n := 1) (i := i) rfl (e28) (e30) (by kernel_rfl) (by omega) rfl) (goes_still rfl rfl hM)
          ·
           refine op2 (a := 0) rfl fun e w ρ (hM : Mem _ w) E => ?_
           have e32 : ρ (.tmp 32) = .pointer (some ⟨b, off + i * 1, none⟩) := E.d 0 _ 32 rfl rfl rfl
           exact res_ok (x_load rfl (e32) (by kernel_rfl) (by have h := hcell w hM; simpa using h)) (goes_still rfl rfl hM)
          · exact op2 (a := 0) rfl fun e w ρ (hM : Mem _ w) E => res_ok (x_assign rfl (E.d 1 _ 33 rfl rfl rfl)) (goes_still rfl rfl hM)
         ·
          intro e a9 w9 hz9 hd hG hO hM
          have hd9 := hd.trans hd8
          have g0_9 := (hO 0 rfl).trans g0_8
          have g2_9 := (hO 2 rfl).trans g2_8
          have g6_9 := (hO 6 rfl).trans g6_8
          have g7_9 := (hO 7 rfl).trans g7_8
          have g9_9 : a9.tmps[9]? = some (.int .u8 x) := hG 2 _ 9 rfl rfl
          have g28_9 := (hO 28 rfl).trans g28_8
          have g29_9 := (hO 29 rfl).trans g29_8
          have g30_9 := (hO 30 rfl).trans g30_8
          have g31_9 := (hO 31 rfl).trans g31_8
          have g32_9 : a9.tmps[32]? = some (.pointer (some ⟨b, off + i * 1, none⟩)) := hG 0 _ 32 rfl rfl
          have g33_9 : a9.tmps[33]? = some (.int .u8 x) := hG 1 _ 33 rfl rfl
          have hM9 : Mem (boxC pw #[.slice (some ⟨b, off, none⟩) bs.length c, .func (.func 32) #[.pointer (some ⟨pw, 0, none⟩)] #[], .bool bad] :: D :: R) w9 := hM
          clear hM hG hO hd
          clear hz8 hd8 hM8 g0_8 g2_8 g6_8 g7_8 g28_8 g29_8 g30_8 g31_8
          refine then_n ?_
          refine region_seq 50 (fun zz e => (#[.int .u64 (valOf (bs.take i)), .int .u64 (valOf (bs.take i) * 256), .int .u8 x, .int .u64 x, .int .u64 (valOf (bs.take (i + 1))), .int .u64 (valOf (bs.take (i + 1)))] : Array Value).getD zz undef) (fun k e w => Mem (List.getD [boxC pw #[.slice (some ⟨b, off, none⟩) bs.length c, .func (.func 32) #[.pointer (some ⟨pw, 0, none⟩)] #[], .bool bad] :: D :: R] k []) w) (fun _ => (0, undef)) [] [0, 0, 0, 0, 0, 0] (fun i t => (i == 0 && t == 7)) hz9 (by kernel_rfl) (by kernel_rfl) (by kernel_rfl) ?_ (show Mem _ _ from hM9) ?_ ?_
          · exact ⟨fun _ _ _ => rfl, fun _ _ _ => rfl, fun _ _ _ => rfl, fun _ _ _ => rfl, fun _ _ _ => rfl, fun _ _ _ => rfl, trivial⟩
          ·
           refine ⟨?_, ?_, ?_, ?_, ?_, ?_, trivial⟩
           · exact op2 (a := 0) rfl fun e w ρ (hM : Mem _ w) E => res_ok (x_move rfl (E.o 7 _ rfl g7_9)) (goes_still rfl rfl hM)
           ·
            refine op2 (a := 0) rfl fun e w ρ (hM : Mem _ w) E => ?_
            have e34 : ρ (.tmp 34) = .int .u64 (valOf (bs.take i)) := E.d 0 _ 34 rfl rfl rfl
            exact res_ok (x_shl (b := 8) rfl (e34) (E.c _) (by decide) (wr_u64 (by omega))) (goes_still rfl rfl hM)
           · exact op2 (a := 0) rfl fun e w ρ (hM : Mem _ w) E => res_ok (x_move rfl (E.o 9 _ rfl g9_9)) (goes_still rfl rfl hM)
           · exact op2 (a := 0) rfl fun e w ρ (hM : Mem _ w) E => res_ok (x_conv rfl (E.d 2 _ 36 rfl rfl rfl) (by kernel_rfl) (by kernel_rfl) (wr_u64 (by omega))) (goes_still rfl rfl hM)
           ·
            refine op2 (a := 0) rfl fun e w ρ (hM : Mem _ w) E => ?_
            have e35 : ρ (.tmp 35) = .int .u64 (valOf (bs.take i) * 256) := E.d 1 _ 35 rfl rfl rfl
            have e37 : ρ (.tmp 37) = .int .u64 x := E.d 3 _ 37 rfl rfl rfl
            exact res_ok (x_or256 rfl (e35) (e37) hvi.1 hv7 hxi.1 hxi.2) (by rw [← hts]; exact (goes_still rfl rfl hM))
           · exact op2 (a := 0) rfl fun e w ρ (hM : Mem _ w) E => res_ok (x_assign rfl (E.d 4 _ 38 rfl rfl rfl)) (goes_still rfl rfl hM)
          ·
           intro e a10 w10 hz10 hd hG hO hM
           have hd10 := hd.trans hd9
           have g0_10 := (hO 0 rfl).trans g0_9
           have g2_10 := (hO 2 rfl).trans g2_9
           have g6_10 := (hO 6 rfl).trans g6_9
           have g7_10 : a10.tmps[7]? = some (.int .u64 (valOf (bs.take (i + 1)))) := hG 5 _ 7 rfl rfl
           have g9_10 := (hO 9 rfl).trans g9_9
           have g28_10 := (hO 28 rfl).trans g28_9
           have g29_10 := (hO 29 rfl).trans g29_9
           have g30_10 := (hO 30 rfl).trans g30_9
           have g31_10 := (hO 31 rfl).trans g31_9
           have g32_10 := (hO 32 rfl).trans g32_9
           have g33_10 := (hO 33 rfl).trans g33_9
           have g34_10 : a10.tmps[34]? = some (.int .u64 (valOf (bs.take i))) := hG 0 _ 34 rfl rfl
           have g35_10 : a10.tmps[35]? = some (.int .u64 (valOf (bs.take i) * 256)) := hG 1 _ 35 rfl rfl
           have g36_10 : a10.tmps[36]? = some (.int .u8 x) := hG 2 _ 36 rfl rfl
           have g37_10 : a10.tmps[37]? = some (.int .u64 x) := hG 3 _ 37 rfl rfl
           have g38_10 : a10.tmps[38]? = some (.int .u64 (valOf (bs.take (i + 1)))) := hG 4 _ 38 rfl rfl
           have hM10 : Mem (boxC pw #[.slice (some ⟨b, off, none⟩) bs.length c, .func (.func 32) #[.pointer (some ⟨pw, 0, none⟩)] #[], .bool bad] :: D :: R) w10 := hM
           clear hM hG hO hd
           clear hz9 hd9 hM9 g0_9 g2_9 g6_9 g7_9 g9_9 g28_9 g29_9 g30_9 g31_9 g32_9 g33_9
           refine blk_n ?_
           refine then_n ?_
           refine region_seq 50 (fun zz e => (#[.int .i64 ((i + 1 : Nat) : Int), .int .i64 ((i + 1 : Nat) : Int)] : Array Value).getD zz undef) (fun k e w => Mem (List.getD [boxC pw #[.slice (some ⟨b, off, none⟩) bs.length c, .func (.func 32) #[.pointer (some ⟨pw, 0, none⟩)] #[], .bool bad] :: D :: R] k []) w) (fun _ => (0, undef)) [] [0, 0] (fun i t => (i == 0 && t == 30)) hz10 (by kernel_rfl) (by kernel_rfl) (by kernel_rfl) ?_ (show Mem _ _ from hM10) ?_ ?_
           · exact ⟨fun _ _ _ => rfl, fun _ _ _ => rfl, trivial⟩
           ·
            refine ⟨?_, ?_, trivial⟩
            · exact op2 (a := 0) rfl fun e w ρ (hM : Mem _ w) E => res_ok (x_add rfl (E.o 30 _ rfl g30_10) (E.c _) ((wr_i64 (by omega)).trans (by omega))) (goes_still rfl rfl hM)
            · exact op2 (a := 0) rfl fun e w ρ (hM : Mem _ w) E => res_ok (x_move rfl (E.d 0 _ 39 rfl rfl rfl)) (goes_still rfl rfl hM)
           ·
            intro e a11 w11 hz11 hd hG hO hM
            have hd11 := hd.trans hd10
            have g0_11 := (hO 0 rfl).trans g0_10
            have g2_11 := (hO 2 rfl).trans g2_10
            have g6_11 := (hO 6 rfl).trans g6_10
            have g7_11 := (hO 7 rfl).trans g7_10
            have g9_11 := (hO 9 rfl).trans g9_10
            have g28_11 := (hO 28 rfl).trans g28_10
            have g29_11 := (hO 29 rfl).trans g29_10
            have g30_11 : a11.tmps[30]? = some (.int .i64 ((i + 1 : Nat) : Int)) := hG 1 _ 30 rfl rfl
            have g31_11 := (hO 31 rfl).trans g31_10
            have g32_11 := (hO 32 rfl).trans g32_10
            have g33_11 := (hO 33 rfl).trans g33_10
            have g34_11 := (hO 34 rfl).trans g34_10
            have g35_11 := (hO 35 rfl).trans g35_10
            have g36_11 := (hO 36 rfl).trans g36_10
            have g37_11 := (hO 37 rfl).trans g37_10
            have g38_11 := (hO 38 rfl).trans g38_10
            have g39_11 : a11.tmps[39]? = some (.int .i64 ((i + 1 : Nat) : Int)) := hG 0 _ 39 rfl rfl
            have hM11 : Mem (boxC pw #[.slice (some ⟨b, off, none⟩) bs.length c, .func (.func 32) #[.pointer (some ⟨pw, 0, none⟩)] #[], .bool bad] :: D :: R) w11 := hM
            clear hM hG hO hd
            clear hz10 hd10 hM10 g0_10 g2_10 g6_10 g7_10 g9_10 g28_10 g29_10 g30_10 g31_10 g32_10 g33_10 g34_10 g35_10 g36_10 g37_10 g38_10
            refine then_n ?_
            exact ⟨i + 1, by omega, ⟨hz11, hd11, g0_11, g2_11, g6_11, g7_11, g28_11, g29_11, (by have h := g30_11; exact h.trans (by congr 2 <;> first | rfl | omega)), (hM11), (by omega)⟩⟩
        ·
         refine cond_f (g31_8.trans (by rw [decide_eq_false hc2])) ?_
         obtain rfl : n = i := by omega
         refine wp_exit ?_
         refine then_x ?_
         refine then_x ?_
         refine blk_x ?_
         refine then_n ?_
         refine wp_seq ?_
         refine region_seq 50 (fun zz e => (#[.pointer (some ⟨pw, 0, none⟩), .pointer (some ⟨pw, 0, none⟩), .pointer (some ⟨pw, 0, none⟩), .pointer (some ⟨pw, 0, none⟩), .slice (some ⟨b, off, none⟩) bs.length c, .int .i64 (n : Int), .slice (if c = n then some ⟨b, off, none⟩ else (some ⟨b, off, none⟩ : Option Addr).map (·.add (n * 1))) (bs.length - n) (c - n), .pointer (some ⟨pw, 0, none⟩), .pointer (some ⟨pw, 0, none⟩), undef] : Array Value).getD zz undef) (fun k e w => Mem (List.getD [boxC pw #[.slice (some ⟨b, off, none⟩) bs.length c, .func (.func 32) #[.pointer (some ⟨pw, 0, none⟩)] #[], .bool bad] :: D :: R, boxC pw #[.slice (if c = n then some ⟨b, off, none⟩ else (some ⟨b, off, none⟩ : Option Addr).map (·.add (n * 1))) (bs.length - n) (c - n), .func (.func 32) #[.pointer (some ⟨pw, 0, none⟩)] #[], .bool bad] :: D :: R] k []) w) (fun _ => (0, undef)) [9] [0, 0, 0, 0, 0, 0, 0, 0, 0, 0] (fun _ _ => false) hz8 (by kernel_rfl) (by kernel_rfl) (by kernel_rfl) ?_ (show Mem _ _ from hM8) ?_ ?_
         · exact ⟨fun _ _ _ => rfl, fun _ _ _ => rfl, fun _ _ _ => rfl, fun _ _ _ => rfl, fun _ _ _ => rfl, fun _ _ _ => rfl, fun _ _ _ => rfl, fun _ _ _ => rfl, fun _ _ _ => rfl, fun _ _ _ => rfl, trivial⟩
         ·
          refine ⟨?_, ?_, ?_, ?_, ?_, ?_, ?_, ?_, ?_, ?_, trivial⟩
          · exact op2 (a := 0) rfl fun e w ρ (hM : Mem _ w) E => res_ok (x_move rfl (E.o 0 _ rfl g0_8)) (goes_still rfl rfl hM)
          · exact op2 (a := 0) rfl fun e w ρ (hM : Mem _ w) E => res_ok (x_move rfl (E.o 0 _ rfl g0_8)) (goes_still rfl rfl hM)
          · exact op2 (a := 0) rfl fun e w ρ (hM : Mem _ w) E => res_ok (x_nil rfl (E.d 1 _ 41 rfl rfl rfl)) (goes_still rfl rfl hM)
          · exact op2 (a := 0) rfl fun e w ρ (hM : Mem _ w) E => res_ok (x_fieldAddr (off := 0) rfl (E.d 2 _ 42 rfl rfl rfl) (by kernel_rfl) rfl) (goes_still rfl rfl hM)
          · exact op2 (a := 0) rfl fun e w ρ (hM : Mem _ w) E => res_ok (x_load rfl (E.d 3 _ 43 rfl rfl rfl) (by kernel_rfl) ((hM.box 0 rfl).cell 0 rfl)) (goes_still rfl rfl hM)
          · exact op2 (a := 0) rfl fun e w ρ (hM : Mem _ w) E => res_ok (x_move rfl (E.o 2 _ rfl g2_8)) (goes_still rfl rfl hM)
          ·
           refine op2 (a := 0) rfl fun e w ρ (hM : Mem _ w) E => ?_
           have e44 : ρ (.tmp 44) = .slice (some ⟨b, off, none⟩) bs.length c := E.d 4 _ 44 rfl rfl rfl
           have e45 : ρ (.tmp 45) = .int .i64 (n : Int) := E.d 5 _ 45 rfl rfl rfl
           exact res_ok (x_sliceLo (n := 1) rfl (e44) (e45) (by kernel_rfl) (by omega)) (goes_still rfl rfl hM)
          · exact op2 (a := 0) rfl fun e w ρ (hM : Mem _ w) E => res_ok (x_nil rfl (E.d 0 _ 40 rfl rfl rfl)) (goes_still rfl rfl hM)
          · exact op2 (a := 0) rfl fun e w ρ (hM : Mem _ w) E => res_ok (x_fieldAddr (off := 0) rfl (E.d 7 _ 47 rfl rfl rfl) (by kernel_rfl) rfl) (goes_still rfl rfl hM)
          ·
           refine op2 (a := 0) rfl fun e w ρ (hM : Mem _ w) E => ?_
           have e46 := E.d 6 _ 46 rfl rfl rfl
           have e48 := E.d 8 _ 48 rfl rfl rfl
           obtain ⟨w', hr, hm⟩ := Mem.store (P := Try.prog) hM 0 rfl 47 0 (.slice (if c = n then some ⟨b, off, none⟩ else (some ⟨b, off, none⟩ : Option Addr).map (·.add (n * 1))) (bs.length - n) (c - n)) [.slice (if c = n then some ⟨b, off, none⟩ else (some ⟨b, off, none⟩ : Option Addr).map (·.add (n * 1))) (bs.length - n) (c - n)] rfl (by kernel_rfl) (Nat.le_of_ble_eq_true rfl) (by rfl)
           exact res_st (x_store rfl (e48) (e46) hr) (goes_tick rfl (0, undef) rfl hm)
         ·
          intro e a12 w12 hz12 hd hG hO hM
          have hd12 := hd.trans hd8
          have g6_12 := (hO 6 rfl).trans g6_8
          have g7_12 := (hO 7 rfl).trans g7_8
          have hM12 : Mem (boxC pw #[.slice (if c = n then some ⟨b, off, none⟩ else (some ⟨b, off, none⟩ : Option Addr).map (·.add (n * 1))) (bs.length - n) (c - n), .func (.func 32) #[.pointer (some ⟨pw, 0, none⟩)] #[], .bool bad] :: D :: R) w12 := hM
          clear hM hG hO hd
          clear hz8 hd8 hM8 g0_8 g2_8 g6_8 g7_8 g28_8 g29_8 g30_8 g31_8
          refine then_n ?_
          refine wp_seq ?_
          refine region_seq 50 (fun zz e => (#[.int .u64 (valOf (bs.take n)), .int .u64 (valOf (bs.take n))] : Array Value).getD zz undef) (fun k e w => Mem (List.getD [boxC pw #[.slice (if c = n then some ⟨b, off, none⟩ else (some ⟨b, off, none⟩ : Option Addr).map (·.add (n * 1))) (bs.length - n) (c - n), .func (.func 32) #[.pointer (some ⟨pw, 0, none⟩)] #[], .bool bad] :: D :: R] k []) w) (fun _ => (0, undef)) [] [0, 0] (fun _ _ => false) hz12 (by kernel_rfl) (by kernel_rfl) (by kernel_rfl) ?_ (show Mem _ _ from hM12) ?_ ?_
          · exact ⟨fun _ _ _ => rfl, fun _ _ _ => rfl, trivial⟩
          ·
           refine ⟨?_, ?_, trivial⟩
           · exact op2 (a := 0) rfl fun e w ρ (hM : Mem _ w) E => res_ok (x_move rfl (E.o 7 _ rfl g7_12)) (goes_still rfl rfl hM)
           · exact op2 (a := 0) rfl fun e w ρ (hM : Mem _ w) E => res_ok (x_assign rfl (E.d 0 _ 49 rfl rfl rfl)) (goes_still rfl rfl hM)
          ·
           intro e a13 w13 hz13 hd hG hO hM
           have hd13 := hd.trans hd12
           have g6_13 : a13.tmps[6]? = some (.int .u64 (valOf (bs.take n))) := hG 1 _ 6 rfl rfl
           have hM13 : Mem (boxC pw #[.slice (if c = n then some ⟨b, off, none⟩ else (some ⟨b, off, none⟩ : Option Addr).map (·.add (n * 1))) (bs.length - n) (c - n), .func (.func 32) #[.pointer (some ⟨pw, 0, none⟩)] #[], .bool bad] :: D :: R) w13 := hM
           clear hM hG hO hd
           clear hz12 hd12 hM12 g6_12 g7_12
           refine then_n ?_
           refine wp_ret ?_
           refine ret_1 Try.results32 hd13 g6_13 ?_
           refine ⟨_, (by rw [num_take (by omega)]), ?_, by have h := hM13; rw [num_take (by omega)]; exact h⟩
           rw [num_take (by omega)]; exact inSlice_drop hR hlc hac hin (by omega)
end Go.Proofs.Ytfcjmpgbohgoeaa
