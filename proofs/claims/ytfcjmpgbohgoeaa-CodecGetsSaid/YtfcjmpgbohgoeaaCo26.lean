/- CODEC: the document's reader: numbers. -/
import Derived.Test.YtfcjmpgbohgoeaaM40
import Derived.Test.YtfcjmpgbohgoeaaCo14
namespace Go.Proofs.Ytfcjmpgbohgoeaa
open Go.RowKit Go.Lib Go.Tk Go.Shelf Go.Vc
set_option linter.unusedVariables false
set_option linter.unusedSimpArgs false
attribute [-go_sem] loadCellsFrom
/-- the document's reader: its bytes and whether all went well -/
def rdC (D : Chunk) (pw : Nat) (σ : WS) : Chunk := exC fun v => allC [boxC pw #[v, .bool (!σ.bad)], D, pureC (InSlice D v σ.bs)]
theorem byteAtR {R : List Chunk} {a : Option Addr} {xs : List Int} (h : Reads R a (xs.map (.int .u8))) {i : Nat} {x : Int} (hx : xs[i]? = some x) {w0 : World} (hw : Mem R w0) :
  ∃ b off, a = some ⟨b, off, none⟩ ∧ ∀ w, Mem R w → w.cell? ⟨b, off + i * 1, none⟩ = some (.int .u8 x) := by
 have h : Reads R a (cellsL byteE xs) := by rw [cellsL_byte]; exact h
 obtain ⟨b, off, ha, hc⟩ := h.elem (show ∀ x, (byteE x).length = 1 from fun _ => rfl) (by decide) hx hw
 exact ⟨b, off, ha, fun w hm => hc w hm 0 _ rfl⟩
theorem valOf_small {l : List Int} {n : Nat} (hl : l.length ≤ n) (h : ∀ x ∈ l, 0 ≤ x ∧ x ≤ 255) : 0 ≤ valOf l ∧ valOf l < 256 ^ n := by
 have := valOf_in l.length l rfl h
 refine ⟨this.1, Int.lt_of_lt_of_le this.2 ?_⟩
 have h2 : ((256 ^ l.length : Nat) : Int) ≤ ((256 ^ n : Nat) : Int) := Int.ofNat_le.2 (Nat.pow_le_pow_right (by decide) hl)
 simpa using h2
set_option maxRecDepth 100000 in
set_option maxHeartbeats 8000000 in
theorem value_at (a : Option Addr) (c : Nat) (xs : List Int) (R : List Chunk) (w : World) (hM : Mem R w) (hR : Reads R a (xs.map (.int .u8))) (hin : ∀ x ∈ xs, 0 ≤ x ∧ x ≤ 255) (hl : xs.length ≤ 8) :
  Calls Try.prog 48 #[.slice a xs.length c] w fun e w' => e = .returned (.int .u64 (valOf xs)) ∧ Mem R w' := by
 refine enter Try.func48 rfl Try.ntmps48 (Nat.le_of_ble_eq_true rfl) ?_
 intro a0 hz0 hd0 hg0
 have g0_0 : a0.tmps[0]? = some (.slice a xs.length c) := hg0 0 _ rfl
 clear hg0
 have hM0 : Mem (R) _ := hM
 refine wp_seq ?_
 refine region_seq 20 (fun zz e => (#[.int .u64 0] : Array Value).getD zz undef) (fun k e w => Mem (List.getD [R] k []) w) (fun _ => (0, undef)) [] [0] (fun _ _ => false) hz0 (by kernel_rfl) (by kernel_rfl) (by kernel_rfl) ?_ (show Mem _ _ from hM0) ?_ ?_
 · exact ⟨fun _ _ _ => rfl, trivial⟩
 ·
  refine ⟨?_, trivial⟩
  · exact op2 (a := 0) rfl fun e w ρ (hM : Mem _ w) E => res_ok (x_assign rfl (E.c _)) (goes_still rfl rfl hM)
 ·
  intro e a1 w1 hz1 hd hG hO hM
  have hd1 := hd.trans hd0
  have g0_1 := (hO 0 rfl).trans g0_0
  have g2_1 : a1.tmps[2]? = some (.int .u64 0) := hG 0 _ 2 rfl rfl
  have hM1 : Mem (R) w1 := hM
  clear hM hG hO hd
  clear hz0 hd0 hM0 g0_0
  refine then_n ?_
  refine wp_seq ?_
  refine region_seq 20 (fun zz e => (#[.int .u64 0] : Array Value).getD zz undef) (fun k e w => Mem (List.getD [R] k []) w) (fun _ => (0, undef)) [] [0] (fun _ _ => false) hz1 (by kernel_rfl) (by kernel_rfl) (by kernel_rfl) ?_ (show Mem _ _ from hM1) ?_ ?_
  · exact ⟨fun _ _ _ => rfl, trivial⟩
  ·
   refine ⟨?_, trivial⟩
   · exact op2 (a := 0) rfl fun e w ρ (hM : Mem _ w) E => res_ok (x_assign rfl (E.c _)) (goes_still rfl rfl hM)
  ·
   intro e a2 w2 hz2 hd hG hO hM
   have hd2 := hd.trans hd1
   have g0_2 := (hO 0 rfl).trans g0_1
   have g2_2 := (hO 2 rfl).trans g2_1
   have g3_2 : a2.tmps[3]? = some (.int .u64 0) := hG 0 _ 3 rfl rfl
   have hM2 : Mem (R) w2 := hM
   clear hM hG hO hd
   clear hz1 hd1 hM1 g0_1 g2_1
   refine then_n ?_
   refine wp_seq ?_
   refine wp_seq ?_
   refine region_seq 20 (fun zz e => (#[.int .i64 0] : Array Value).getD zz undef) (fun k e w => Mem (List.getD [R] k []) w) (fun _ => (0, undef)) [] [0] (fun _ _ => false) hz2 (by kernel_rfl) (by kernel_rfl) (by kernel_rfl) ?_ (show Mem _ _ from hM2) ?_ ?_
   · exact ⟨fun _ _ _ => rfl, trivial⟩
   ·
    refine ⟨?_, trivial⟩
    · exact op2 (a := 0) rfl fun e w ρ (hM : Mem _ w) E => res_ok (x_assign rfl (E.c _)) (goes_still rfl rfl hM)
   ·
    intro e a3 w3 hz3 hd hG hO hM
    have hd3 := hd.trans hd2
    have g0_3 := (hO 0 rfl).trans g0_2
    have g2_3 := (hO 2 rfl).trans g2_2
    have g3_3 := (hO 3 rfl).trans g3_2
    have g4_3 : a3.tmps[4]? = some (.int .i64 0) := hG 0 _ 4 rfl rfl
    have hM3 : Mem (R) w3 := hM
    clear hM hG hO hd
    clear hz2 hd2 hM2 g0_2 g2_2 g3_2
    refine then_n ?_
    refine wp_block ?_
    refine loopx (X := Nat) (fun i aa ww => aa.tmps.size = 20 ∧ aa.defers = [] ∧ aa.tmps[0]? = some (.slice a xs.length c) ∧ aa.tmps[2]? = some (.int .u64 0) ∧ aa.tmps[3]? = some (.int .u64 (valOf (xs.take i))) ∧ aa.tmps[4]? = some (.int .i64 (i : Int)) ∧ Mem (R) ww ∧ i ≤ xs.length) (fun i => xs.length - i) (0) ?_ ?_
    ·
     exact ⟨hz3, hd3, g0_3, g2_3, (by have h := g3_3; exact h.trans (by first | rfl | (congr 2; exact hts.symm))), (by have h := g4_3; exact h.trans (by congr 2 <;> first | rfl | omega)), (hM3), (Nat.zero_le _)⟩
    ·
     clear hz3 hd3 hM3 g0_3 g2_3 g3_3 g4_3
     rintro i a4 w4 hI
     obtain ⟨hz4, hd4, g0_4, g2_4, g3_4, g4_4, hM4, hi⟩ := hI
     refine wp_seq ?_
     refine wp_seq ?_
     refine region_seq 20 (fun zz e => (#[.int .i64 (i : Int), .slice a xs.length c, .int .i64 (xs.length : Int), .bool (decide ((i : Int) < (xs.length : Int)))] : Array Value).getD zz undef) (fun k e w => Mem (List.getD [R] k []) w) (fun _ => (0, undef)) [] [0, 0, 0, 0] (fun _ _ => false) hz4 (by kernel_rfl) (by kernel_rfl) (by kernel_rfl) ?_ (show Mem _ _ from hM4) ?_ ?_
     · exact ⟨fun _ _ _ => rfl, fun _ _ _ => rfl, fun _ _ _ => rfl, fun _ _ _ => rfl, trivial⟩
     ·
      refine ⟨?_, ?_, ?_, ?_, trivial⟩
      · exact op2 (a := 0) rfl fun e w ρ (hM : Mem _ w) E => res_ok (x_move rfl (E.o 4 _ rfl g4_4)) (goes_still rfl rfl hM)
      · exact op2 (a := 0) rfl fun e w ρ (hM : Mem _ w) E => res_ok (x_move rfl (E.o 0 _ rfl g0_4)) (goes_still rfl rfl hM)
      ·
       refine op2 (a := 0) rfl fun e w ρ (hM : Mem _ w) E => ?_
       have e6 : ρ (.tmp 6) = .slice a xs.length c := E.d 1 _ 6 rfl rfl rfl
       exact res_ok (x_len (n := 1) rfl rfl rfl rfl (e6) (by kernel_rfl)) (goes_still rfl rfl hM)
      · exact op2 (a := 0) rfl fun e w ρ (hM : Mem _ w) E => res_ok (x_lss rfl (E.d 0 _ 5 rfl rfl rfl) (E.d 2 _ 7 rfl rfl rfl) rfl) (goes_still rfl rfl hM)
     ·
      intro e a5 w5 hz5 hd hG hO hM
      have hd5 := hd.trans hd4
      have g0_5 := (hO 0 rfl).trans g0_4
      have g2_5 := (hO 2 rfl).trans g2_4
      have g3_5 := (hO 3 rfl).trans g3_4
      have g4_5 := (hO 4 rfl).trans g4_4
      have g5_5 : a5.tmps[5]? = some (.int .i64 (i : Int)) := hG 0 _ 5 rfl rfl
      have g6_5 : a5.tmps[6]? = some (.slice a xs.length c) := hG 1 _ 6 rfl rfl
      have g7_5 : a5.tmps[7]? = some (.int .i64 (xs.length : Int)) := hG 2 _ 7 rfl rfl
      have g8_5 : a5.tmps[8]? = some (.bool (decide ((i : Int) < (xs.length : Int)))) := hG 3 _ 8 rfl rfl
      have hM5 : Mem (R) w5 := hM
      clear hM hG hO hd
      clear hz4 hd4 hM4 g0_4 g2_4 g3_4 g4_4
      refine then_n ?_
      by_cases hic : (i : Int) < (xs.length : Int)
      ·
       refine cond_t (g8_5.trans (by rw [decide_eq_true hic])) ?_
       obtain ⟨x, hx⟩ := list_at (show i < xs.length by omega)
       obtain ⟨b1, o1, ha1, hcx⟩ := byteAtR hR hx hM5
       have hxi := hin x (List.mem_of_getElem? hx)
       have hts : valOf (xs.take (i + 1)) = valOf (xs.take i) * 256 + x := by rw [List.take_add_one, hx]; exact valOf_snoc _ _
       have hv1 := valOf_small (l := xs.take i) (n := 7) (by rw [List.length_take]; omega) (fun y hy => hin y (List.mem_of_mem_take hy))
       refine wp_skip ?_
       refine then_n ?_
       refine wp_seq ?_
       refine wp_block ?_
       refine region_seq 20 (fun zz e => (#[.int .u64 (valOf (xs.take i)), .int .u64 (valOf (xs.take i) * 256), .slice a xs.length c, .int .i64 (i : Int), .pointer (some ⟨b1, o1 + i * 1, none⟩), .int .u8 x, .int .u64 x, .int .u64 (valOf (xs.take i) * 256 + x), .int .u64 (valOf (xs.take i) * 256 + x)] : Array Value).getD zz undef) (fun k e w => Mem (List.getD [R] k []) w) (fun _ => (0, undef)) [] [0, 0, 0, 0, 0, 0, 0, 0, 0] (fun i t => (i == 0 && t == 3)) hz5 (by kernel_rfl) (by kernel_rfl) (by kernel_rfl) ?_ (show Mem _ _ from hM5) ?_ ?_
       · exact ⟨fun _ _ _ => rfl, fun _ _ _ => rfl, fun _ _ _ => rfl, fun _ _ _ => rfl, fun _ _ _ => rfl, fun _ _ _ => rfl, fun _ _ _ => rfl, fun _ _ _ => rfl, fun _ _ _ => rfl, trivial⟩
       ·
        refine ⟨?_, ?_, ?_, ?_, ?_, ?_, ?_, ?_, ?_, trivial⟩
        · exact op2 (a := 0) rfl fun e w ρ (hM : Mem _ w) E => res_ok (x_move rfl (E.o 3 _ rfl g3_5)) (goes_still rfl rfl hM)
        · exact op2 (a := 0) rfl fun e w ρ (hM : Mem _ w) E => res_ok (x_mul rfl (E.d 0 _ 11 rfl rfl rfl) (E.c _) (wr_u64 (by omega))) (goes_still rfl rfl hM)
        · exact op2 (a := 0) rfl fun e w ρ (hM : Mem _ w) E => res_ok (x_move rfl (E.o 0 _ rfl g0_5)) (goes_still rfl rfl hM)
        · exact op2 (a := 0) rfl fun e w ρ (hM : Mem _ w) E => res_ok (x_move rfl (E.o 4 _ rfl g4_5)) (goes_still rfl rfl hM)
        ·
         refine op2 (a := 0) rfl fun e w ρ (hM : Mem _ w) E => ?_
         have e13 : ρ (.tmp 13) = .slice a xs.length c := E.d 2 _ 13 rfl rfl rfl
         have e14 : ρ (.tmp 14) = .int .i64 (i : Int) := E.d 3 _ 14 rfl rfl rfl
         exact res_ok (x_idx (n := 1) (i := i) rfl (show _ = Value.slice (some ⟨b1, o1, none⟩) xs.length c from by rw [← ha1]; exact e13) (e14) (by kernel_rfl) (by omega) rfl) (goes_still rfl rfl hM)
        ·
         refine op2 (a := 0) rfl fun e w ρ (hM : Mem _ w) E => ?_
         have e15 : ρ (.tmp 15) = .pointer (some ⟨b1, o1 + i * 1, none⟩) := E.d 4 _ 15 rfl rfl rfl
         exact res_ok (x_load rfl (e15) (by kernel_rfl) (hcx w hM)) (goes_still rfl rfl hM)
        · exact op2 (a := 0) rfl fun e w ρ (hM : Mem _ w) E => res_ok (x_conv rfl (E.d 5 _ 16 rfl rfl rfl) (by kernel_rfl) (by kernel_rfl) (wr_u64 (by omega))) (goes_still rfl rfl hM)
        · exact op2 (a := 0) rfl fun e w ρ (hM : Mem _ w) E => res_ok (x_add rfl (E.d 1 _ 12 rfl rfl rfl) (E.d 6 _ 17 rfl rfl rfl) (wr_u64 (by omega))) (goes_still rfl rfl hM)
        · exact op2 (a := 0) rfl fun e w ρ (hM : Mem _ w) E => res_ok (x_assign rfl (E.d 7 _ 18 rfl rfl rfl)) (goes_still rfl rfl hM)
       ·
        intro e a6 w6 hz6 hd hG hO hM
        have hd6 := hd.trans hd5
        have g0_6 := (hO 0 rfl).trans g0_5
        have g2_6 := (hO 2 rfl).trans g2_5
        have g3_6 : a6.tmps[3]? = some (.int .u64 (valOf (xs.take i) * 256 + x)) := hG 8 _ 3 rfl rfl
        have g4_6 := (hO 4 rfl).trans g4_5
        have g5_6 := (hO 5 rfl).trans g5_5
        have g6_6 := (hO 6 rfl).trans g6_5
        have g7_6 := (hO 7 rfl).trans g7_5
        have g8_6 := (hO 8 rfl).trans g8_5
        have g11_6 : a6.tmps[11]? = some (.int .u64 (valOf (xs.take i))) := hG 0 _ 11 rfl rfl
        have g12_6 : a6.tmps[12]? = some (.int .u64 (valOf (xs.take i) * 256)) := hG 1 _ 12 rfl rfl
        have g13_6 : a6.tmps[13]? = some (.slice a xs.length c) := hG 2 _ 13 rfl rfl
        have g14_6 : a6.tmps[14]? = some (.int .i64 (i : Int)) := hG 3 _ 14 rfl rfl
        have g15_6 : a6.tmps[15]? = some (.pointer (some ⟨b1, o1 + i * 1, none⟩)) := hG 4 _ 15 rfl rfl
        have g16_6 : a6.tmps[16]? = some (.int .u8 x) := hG 5 _ 16 rfl rfl
        have g17_6 : a6.tmps[17]? = some (.int .u64 x) := hG 6 _ 17 rfl rfl
        have g18_6 : a6.tmps[18]? = some (.int .u64 (valOf (xs.take i) * 256 + x)) := hG 7 _ 18 rfl rfl
        have hM6 : Mem (R) w6 := hM
        clear hM hG hO hd
        clear hz5 hd5 hM5 g0_5 g2_5 g3_5 g4_5 g5_5 g6_5 g7_5 g8_5
        refine blk_n ?_
        refine then_n ?_
        refine region_seq 20 (fun zz e => (#[.int .i64 (i : Int), .int .i64 ((i + 1 : Nat) : Int), .int .i64 ((i + 1 : Nat) : Int)] : Array Value).getD zz undef) (fun k e w => Mem (List.getD [R] k []) w) (fun _ => (0, undef)) [] [0, 0, 0] (fun i t => (i == 0 && t == 4)) hz6 (by kernel_rfl) (by kernel_rfl) (by kernel_rfl) ?_ (show Mem _ _ from hM6) ?_ ?_
        · exact ⟨fun _ _ _ => rfl, fun _ _ _ => rfl, fun _ _ _ => rfl, trivial⟩
        ·
         refine ⟨?_, ?_, ?_, trivial⟩
         · exact op2 (a := 0) rfl fun e w ρ (hM : Mem _ w) E => res_ok (x_move rfl (E.o 4 _ rfl g4_6)) (goes_still rfl rfl hM)
         · exact op2 (a := 0) rfl fun e w ρ (hM : Mem _ w) E => res_ok (x_add rfl (E.d 0 _ 9 rfl rfl rfl) (E.c _) ((wr_i64 (by omega)).trans (by omega))) (goes_still rfl rfl hM)
         · exact op2 (a := 0) rfl fun e w ρ (hM : Mem _ w) E => res_ok (x_assign rfl (E.d 1 _ 10 rfl rfl rfl)) (goes_still rfl rfl hM)
        ·
         intro e a7 w7 hz7 hd hG hO hM
         have hd7 := hd.trans hd6
         have g0_7 := (hO 0 rfl).trans g0_6
         have g2_7 := (hO 2 rfl).trans g2_6
         have g3_7 := (hO 3 rfl).trans g3_6
         have g4_7 : a7.tmps[4]? = some (.int .i64 ((i + 1 : Nat) : Int)) := hG 2 _ 4 rfl rfl
         have g5_7 := (hO 5 rfl).trans g5_6
         have g6_7 := (hO 6 rfl).trans g6_6
         have g7_7 := (hO 7 rfl).trans g7_6
         have g8_7 := (hO 8 rfl).trans g8_6
         have g9_7 : a7.tmps[9]? = some (.int .i64 (i : Int)) := hG 0 _ 9 rfl rfl
         have g10_7 : a7.tmps[10]? = some (.int .i64 ((i + 1 : Nat) : Int)) := hG 1 _ 10 rfl rfl
         have g11_7 := (hO 11 rfl).trans g11_6
         have g12_7 := (hO 12 rfl).trans g12_6
         have g13_7 := (hO 13 rfl).trans g13_6
         have g14_7 := (hO 14 rfl).trans g14_6
         have g15_7 := (hO 15 rfl).trans g15_6
         have g16_7 := (hO 16 rfl).trans g16_6
         have g17_7 := (hO 17 rfl).trans g17_6
         have g18_7 := (hO 18 rfl).trans g18_6
         have hM7 : Mem (R) w7 := hM
         clear hM hG hO hd
         clear hz6 hd6 hM6 g0_6 g2_6 g3_6 g4_6 g5_6 g6_6 g7_6 g8_6 g11_6 g12_6 g13_6 g14_6 g15_6 g16_6 g17_6 g18_6
         refine then_n ?_
         exact ⟨i + 1, by omega, ⟨hz7, hd7, g0_7, g2_7, (by have h := g3_7; exact h.trans (by first | rfl | (congr 2; exact hts.symm))), (by have h := g4_7; exact h.trans (by congr 2 <;> first | rfl | omega)), (hM7), (by show i + 1 ≤ _; omega)⟩⟩
      ·
       refine cond_f (g8_5.trans (by rw [decide_eq_false hic])) ?_
       refine wp_exit ?_
       refine then_x ?_
       refine then_x ?_
       refine blk_x ?_
       refine then_n ?_
       refine wp_seq ?_
       refine region_seq 20 (fun zz e => (#[.int .u64 (valOf (xs.take i)), .int .u64 (valOf (xs.take i))] : Array Value).getD zz undef) (fun k e w => Mem (List.getD [R] k []) w) (fun _ => (0, undef)) [] [0, 0] (fun _ _ => false) hz5 (by kernel_rfl) (by kernel_rfl) (by kernel_rfl) ?_ (show Mem _ _ from hM5) ?_ ?_
       · exact ⟨fun _ _ _ => rfl, fun _ _ _ => rfl, trivial⟩
       ·
        refine ⟨?_, ?_, trivial⟩
        · exact op2 (a := 0) rfl fun e w ρ (hM : Mem _ w) E => res_ok (x_move rfl (E.o 3 _ rfl g3_5)) (goes_still rfl rfl hM)
        · exact op2 (a := 0) rfl fun e w ρ (hM : Mem _ w) E => res_ok (x_assign rfl (E.d 0 _ 19 rfl rfl rfl)) (goes_still rfl rfl hM)
       ·
        intro e a8 w8 hz8 hd hG hO hM
        have hd8 := hd.trans hd5
        have g2_8 : a8.tmps[2]? = some (.int .u64 (valOf (xs.take i))) := hG 1 _ 2 rfl rfl
        have hM8 : Mem (R) w8 := hM
        clear hM hG hO hd
        clear hz5 hd5 hM5 g0_5 g2_5 g3_5 g4_5 g5_5 g6_5 g7_5 g8_5
        refine then_n ?_
        refine wp_ret ?_
        refine ret_1 Try.results48 hd8 g2_8 ?_
        exact ⟨by rw [show i = xs.length from by omega, List.take_length], hM8⟩
end Go.Proofs.Ytfcjmpgbohgoeaa
