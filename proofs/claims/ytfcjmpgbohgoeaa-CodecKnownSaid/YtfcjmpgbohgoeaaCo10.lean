/- CODEC: records alike, rows alike, cloned, searched; what a record is cut to. -/
import Derived.Test.YtfcjmpgbohgoeaaCo9
import Derived.Test.YtfcjmpgbohgoeaaEqs
namespace Go.Proofs.Ytfcjmpgbohgoeaa
open Go.RowKit Go.Lib Go.Tk Go.Shelf Go.Vc
set_option linter.unusedVariables false
set_option linter.unusedSimpArgs false
attribute [-go_sem] loadCellsFrom
def legB (a b : LegV) : Bool := decide (a.c = b.c) && (decide (a.f = b.f) && decide (a.x = b.x))
def taxB (a b : TaxV) : Bool := decide (a.code = b.code) && decide (a.amt = b.amt)
def tickB (a b : TickV) : Bool := decide (a.c = b.c) && decide (a.r = b.r)
def msgB (a b : MsgV) : Bool := decide (a.kind = b.kind) && ((tickB a.tick b.tick && decide (a.at_ = b.at_)) && ((legB a.leg b.leg && (decide (a.value = b.value) && (decide (a.status = b.status) && decide (a.nonce = b.nonce)))) && (decide (a.amount = b.amount) && decide (a.code = b.code))))
theorem legB_iff (a b : LegV) : legB a b = true ↔ a = b := by
 cases a; cases b; simp [legB]
theorem taxB_iff (a b : TaxV) : taxB a b = true ↔ a = b := by
 cases a; cases b; simp [taxB]
theorem tickB_iff (a b : TickV) : tickB a b = true ↔ a = b := by
 cases a; cases b; simp [tickB]
theorem msgB_iff (a b : MsgV) : msgB a b = true ↔ a = b := by
 cases a; cases b
 simp only [msgB, Bool.and_eq_true, legB_iff, tickB_iff, decide_eq_true_eq, MsgV.mk.injEq]
 constructor
 · rintro ⟨h1, ⟨h2, h3⟩, ⟨h4, h5, h6, h7⟩, h8, h9⟩; exact ⟨h1, h2, h3, h4, h5, h6, h7, h8, h9⟩
 · rintro ⟨h1, h2, h3, h4, h5, h6, h7, h8, h9⟩; exact ⟨h1, ⟨h2, h3⟩, ⟨h4, h5, h6, h7⟩, h8, h9⟩
theorem if_ok {p : Prop} [Decidable p] (b : Bool) (w : World) : (if p then Result.ok b w else Result.ok false w) = Result.ok (decide p && b) w := by
 by_cases h : p <;> simp [h]
set_option maxHeartbeats 4000000 in
theorem eq_tick (a b : TickV) (w : World) : (Op.equalIn 10000 24 (.agg #[.int .u8 a.c, .int .u64 a.r]) (.agg #[.int .u8 b.c, .int .u64 b.r])).run Try.prog w = .ok (tickB a b) w := by
 rw [run_equalIn_agg w 9999 _ _ _ (by kernel_rfl) (by kernel_rfl)]
 simp only [tickB]
 simp [go_sem, ← beq_toListBytes, ba_beq]
 simp only [if_ok, Bool.and_assoc, Bool.and_true]
set_option maxHeartbeats 4000000 in
theorem eq_leg (a b : LegV) (w : World) : (Op.equalIn 10000 36 (.agg #[.int .u8 a.c, .int .u16 a.f, .int .u32 a.x]) (.agg #[.int .u8 b.c, .int .u16 b.f, .int .u32 b.x])).run Try.prog w = .ok (legB a b) w := by
 rw [run_equalIn_agg w 9999 _ _ _ (by kernel_rfl) (by kernel_rfl)]
 simp only [legB]
 simp [go_sem, ← beq_toListBytes, ba_beq]
 simp only [if_ok, Bool.and_assoc, Bool.and_true]
set_option maxHeartbeats 4000000 in
theorem eq_tax (a b : TaxV) (w : World) : (Op.equalIn 10000 58 (.agg #[.string a.code, .int .i64 a.amt]) (.agg #[.string b.code, .int .i64 b.amt])).run Try.prog w = .ok (taxB a b) w := by
 rw [run_equalIn_agg w 9999 _ _ _ (by kernel_rfl) (by kernel_rfl)]
 simp only [taxB]
 simp [go_sem, ← beq_toListBytes, ba_beq]
 simp only [if_ok, Bool.and_assoc, Bool.and_true]
set_option maxHeartbeats 4000000 in
theorem eq_msg (a b : MsgV) (w : World) : (Op.equalIn 10000 42 (.agg #[.int .u8 a.kind, .int .u8 a.tick.c, .int .u64 a.tick.r, .int .u8 a.at_, .int .u8 a.leg.c, .int .u16 a.leg.f, .int .u32 a.leg.x, .int .i64 a.value, .int .u8 a.status, .int .u32 a.nonce, .int .i64 a.amount, .int .i64 a.code]) (.agg #[.int .u8 b.kind, .int .u8 b.tick.c, .int .u64 b.tick.r, .int .u8 b.at_, .int .u8 b.leg.c, .int .u16 b.leg.f, .int .u32 b.leg.x, .int .i64 b.value, .int .u8 b.status, .int .u32 b.nonce, .int .i64 b.amount, .int .i64 b.code])).run Try.prog w = .ok (msgB a b) w := by
 rw [run_equalIn_agg w 9999 _ _ _ (by kernel_rfl) (by kernel_rfl)]
 simp only [legB, msgB, tickB]
 simp [go_sem, ← beq_toListBytes, ba_beq]
 simp only [if_ok, Bool.and_assoc, Bool.and_true]
set_option maxRecDepth 100000 in
set_option maxHeartbeats 8000000 in
theorem equal_Leg (ad1 ad2 : Option Addr) (cp1 cp2 : Nat) (xs ys : List LegV) (R : List Chunk) (w : World) (hM : Mem R w) (hR1 : Reads R ad1 (cellsL legE xs)) (hR2 : Reads R ad2 (cellsL legE ys)) (hx : xs.length ≤ 1000000) (hy : ys.length ≤ 1000000) :
  Calls Try.prog 37 #[.slice ad1 xs.length cp1, .slice ad2 ys.length cp2] w fun e w' => e = .returned (.bool (listB legB xs ys)) ∧ Mem R w' := by
 refine enter Try.func37 rfl Try.ntmps37 (Nat.le_of_ble_eq_true rfl) ?_
 intro a0 hz0 hd0 hg0
 have g0_0 : a0.tmps[0]? = some (.slice ad1 xs.length cp1) := hg0 0 _ rfl
 have g1_0 : a0.tmps[1]? = some (.slice ad2 ys.length cp2) := hg0 1 _ rfl
 clear hg0
 have hM0 : Mem (R) _ := hM
 refine wp_seq ?_
 refine region_seq 26 (fun zz e => (#[.bool false] : Array Value).getD zz undef) (fun k e w => Mem (List.getD [R] k []) w) (fun _ => (0, undef)) [] [0] (fun _ _ => false) hz0 (by kernel_rfl) (by kernel_rfl) (by kernel_rfl) ?_ (show Mem _ _ from hM0) ?_ ?_
 · exact ⟨fun _ _ _ => rfl, trivial⟩
 ·
  refine ⟨?_, trivial⟩
  · exact op2 (a := 0) rfl fun e w ρ (hM : Mem _ w) E => res_ok (x_assign rfl (E.c _)) (goes_still rfl rfl hM)
 ·
  intro e a1 w1 hz1 hd hG hO hM
  have hd1 := hd.trans hd0
  have g0_1 := (hO 0 rfl).trans g0_0
  have g1_1 := (hO 1 rfl).trans g1_0
  have g4_1 : a1.tmps[4]? = some (.bool false) := hG 0 _ 4 rfl rfl
  have hM1 : Mem (R) w1 := hM
  clear hM hG hO hd
  clear hz0 hd0 hM0 g0_0 g1_0
  refine then_n ?_
  refine wp_seq ?_
  refine wp_seq ?_
  refine region_seq 26 (fun zz e => (#[.slice ad1 xs.length cp1, .int .i64 (xs.length : Int), .slice ad2 ys.length cp2, .int .i64 (ys.length : Int), .bool (!decide ((xs.length : Int) = (ys.length : Int)))] : Array Value).getD zz undef) (fun k e w => Mem (List.getD [R] k []) w) (fun _ => (0, undef)) [] [0, 0, 0, 0, 0] (fun _ _ => false) hz1 (by kernel_rfl) (by kernel_rfl) (by kernel_rfl) ?_ (show Mem _ _ from hM1) ?_ ?_
  · exact ⟨fun _ _ _ => rfl, fun _ _ _ => rfl, fun _ _ _ => rfl, fun _ _ _ => rfl, fun _ _ _ => rfl, trivial⟩
  ·
   refine ⟨?_, ?_, ?_, ?_, ?_, trivial⟩
   · exact op2 (a := 0) rfl fun e w ρ (hM : Mem _ w) E => res_ok (x_move rfl (E.o 0 _ rfl g0_1)) (goes_still rfl rfl hM)
   ·
    refine op2 (a := 0) rfl fun e w ρ (hM : Mem _ w) E => ?_
    have e6 : ρ (.tmp 6) = .slice ad1 xs.length cp1 := E.d 0 _ 6 rfl rfl rfl
    exact res_ok (x_len (n := 3) rfl rfl rfl rfl (e6) (by kernel_rfl)) (goes_still rfl rfl hM)
   · exact op2 (a := 0) rfl fun e w ρ (hM : Mem _ w) E => res_ok (x_move rfl (E.o 1 _ rfl g1_1)) (goes_still rfl rfl hM)
   ·
    refine op2 (a := 0) rfl fun e w ρ (hM : Mem _ w) E => ?_
    have e8 : ρ (.tmp 8) = .slice ad2 ys.length cp2 := E.d 2 _ 8 rfl rfl rfl
    exact res_ok (x_len (n := 3) rfl rfl rfl rfl (e8) (by kernel_rfl)) (goes_still rfl rfl hM)
   · exact op2 (a := 0) rfl fun e w ρ (hM : Mem _ w) E => res_ok (x_neq rfl (E.d 1 _ 7 rfl rfl rfl) (E.d 3 _ 9 rfl rfl rfl) rfl) (goes_still rfl rfl hM)
  ·
   intro e a2 w2 hz2 hd hG hO hM
   have hd2 := hd.trans hd1
   have g0_2 := (hO 0 rfl).trans g0_1
   have g1_2 := (hO 1 rfl).trans g1_1
   have g4_2 := (hO 4 rfl).trans g4_1
   have g10_2 : a2.tmps[10]? = some (.bool (!decide ((xs.length : Int) = (ys.length : Int)))) := hG 4 _ 10 rfl rfl
   have hM2 : Mem (R) w2 := hM
   clear hM hG hO hd
   clear hz1 hd1 hM1 g0_1 g1_1 g4_1
   refine then_n ?_
   by_cases hlc : (xs.length : Int) = (ys.length : Int)
   ·
    refine cond_f (g10_2.trans (by rw [decide_eq_true hlc]; rfl)) ?_
    refine wp_skip ?_
    refine then_n ?_
    refine wp_seq ?_
    refine wp_seq ?_
    refine region_seq 26 (fun zz e => (#[.slice ad1 xs.length cp1, .int .i64 (xs.length : Int), .int .i64 0] : Array Value).getD zz undef) (fun k e w => Mem (List.getD [R] k []) w) (fun _ => (0, undef)) [] [0, 0, 0] (fun _ _ => false) hz2 (by kernel_rfl) (by kernel_rfl) (by kernel_rfl) ?_ (show Mem _ _ from hM2) ?_ ?_
    · exact ⟨fun _ _ _ => rfl, fun _ _ _ => rfl, fun _ _ _ => rfl, trivial⟩
    ·
     refine ⟨?_, ?_, ?_, trivial⟩
     · exact op2 (a := 0) rfl fun e w ρ (hM : Mem _ w) E => res_ok (x_move rfl (E.o 0 _ rfl g0_2)) (goes_still rfl rfl hM)
     ·
      refine op2 (a := 0) rfl fun e w ρ (hM : Mem _ w) E => ?_
      have e11 : ρ (.tmp 11) = .slice ad1 xs.length cp1 := E.d 0 _ 11 rfl rfl rfl
      exact res_ok (x_len (n := 3) rfl rfl rfl rfl (e11) (by kernel_rfl)) (goes_still rfl rfl hM)
     · exact op2 (a := 0) rfl fun e w ρ (hM : Mem _ w) E => res_ok (x_move rfl (E.c _)) (goes_still rfl rfl hM)
    ·
     intro e a3 w3 hz3 hd hG hO hM
     have hd3 := hd.trans hd2
     have g0_3 := (hO 0 rfl).trans g0_2
     have g1_3 := (hO 1 rfl).trans g1_2
     have g4_3 := (hO 4 rfl).trans g4_2
     have g12_3 : a3.tmps[12]? = some (.int .i64 (xs.length : Int)) := hG 1 _ 12 rfl rfl
     have g13_3 : a3.tmps[13]? = some (.int .i64 0) := hG 2 _ 13 rfl rfl
     have hM3 : Mem (R) w3 := hM
     clear hM hG hO hd
     clear hz2 hd2 hM2 g0_2 g1_2 g4_2 g10_2
     refine then_n ?_
     refine wp_block ?_
     refine loopx (X := Nat) (fun i aa ww => aa.tmps.size = 26 ∧ aa.defers = [] ∧ aa.tmps[0]? = some (.slice ad1 xs.length cp1) ∧ aa.tmps[1]? = some (.slice ad2 ys.length cp2) ∧ aa.tmps[12]? = some (.int .i64 (xs.length : Int)) ∧ aa.tmps[13]? = some (.int .i64 (i : Int)) ∧ Mem (R) ww ∧ i ≤ xs.length ∧ listB legB (xs.drop i) (ys.drop i) = listB legB xs ys) (fun i => xs.length - i) (0) ?_ ?_
     ·
      exact ⟨hz3, hd3, g0_3, g1_3, g12_3, (by have h := g13_3; exact h.trans (by congr 2 <;> first | rfl | omega)), (hM3), (Nat.zero_le _), (rfl)⟩
     ·
      clear hz3 hd3 hM3 g0_3 g1_3 g4_3 g12_3 g13_3
      rintro i a4 w4 hI
      obtain ⟨hz4, hd4, g0_4, g1_4, g12_4, g13_4, hM4, hi, hp⟩ := hI
      refine wp_seq ?_
      refine region_seq 26 (fun zz e => (#[.bool (decide ((i : Int) < (xs.length : Int)))] : Array Value).getD zz undef) (fun k e w => Mem (List.getD [R] k []) w) (fun _ => (0, undef)) [] [0] (fun _ _ => false) hz4 (by kernel_rfl) (by kernel_rfl) (by kernel_rfl) ?_ (show Mem _ _ from hM4) ?_ ?_
      · exact ⟨fun _ _ _ => rfl, trivial⟩
      ·
       refine ⟨?_, trivial⟩
       · exact op2 (a := 0) rfl fun e w ρ (hM : Mem _ w) E => res_ok (x_lss rfl (E.o 13 _ rfl g13_4) (E.o 12 _ rfl g12_4) rfl) (goes_still rfl rfl hM)
      ·
       intro e a5 w5 hz5 hd hG hO hM
       have hd5 := hd.trans hd4
       have g0_5 := (hO 0 rfl).trans g0_4
       have g1_5 := (hO 1 rfl).trans g1_4
       have g12_5 := (hO 12 rfl).trans g12_4
       have g13_5 := (hO 13 rfl).trans g13_4
       have g14_5 : a5.tmps[14]? = some (.bool (decide ((i : Int) < (xs.length : Int)))) := hG 0 _ 14 rfl rfl
       have hM5 : Mem (R) w5 := hM
       clear hM hG hO hd
       clear hz4 hd4 hM4 g0_4 g1_4 g12_4 g13_4
       refine then_n ?_
       refine wp_seq ?_
       by_cases hic : (i : Int) < (xs.length : Int)
       ·
        refine cond_t (g14_5.trans (by rw [decide_eq_true hic])) ?_
        obtain ⟨x, hx⟩ := list_at (show i < xs.length by omega)
        obtain ⟨y, hy⟩ := list_at (show i < ys.length by omega)
        obtain ⟨b1, o1, ha1, hc1⟩ := hR1.elem (show ∀ x, (legE x).length = 3 from fun _ => rfl) (by decide) hx hM5
        obtain ⟨b2, o2, ha2, hc2⟩ := hR2.elem (show ∀ x, (legE x).length = 3 from fun _ => rfl) (by decide) hy hM5
        refine wp_skip ?_
        refine then_n ?_
        refine wp_seq ?_
        refine wp_block ?_
        refine wp_seq ?_
        refine region_seq 26 (fun zz e => (#[.int .i64 (i : Int), .int .i64 (i : Int)] : Array Value).getD zz undef) (fun k e w => Mem (List.getD [R] k []) w) (fun _ => (0, undef)) [] [0, 0] (fun _ _ => false) hz5 (by kernel_rfl) (by kernel_rfl) (by kernel_rfl) ?_ (show Mem _ _ from hM5) ?_ ?_
        · exact ⟨fun _ _ _ => rfl, fun _ _ _ => rfl, trivial⟩
        ·
         refine ⟨?_, ?_, trivial⟩
         · exact op2 (a := 0) rfl fun e w ρ (hM : Mem _ w) E => res_ok (x_move rfl (E.o 13 _ rfl g13_5)) (goes_still rfl rfl hM)
         · exact op2 (a := 0) rfl fun e w ρ (hM : Mem _ w) E => res_ok (x_assign rfl (E.d 0 _ 15 rfl rfl rfl)) (goes_still rfl rfl hM)
        ·
         intro e a6 w6 hz6 hd hG hO hM
         have hd6 := hd.trans hd5
         have g0_6 := (hO 0 rfl).trans g0_5
         have g1_6 := (hO 1 rfl).trans g1_5
         have g5_6 : a6.tmps[5]? = some (.int .i64 (i : Int)) := hG 1 _ 5 rfl rfl
         have g12_6 := (hO 12 rfl).trans g12_5
         have g13_6 := (hO 13 rfl).trans g13_5
         have g14_6 := (hO 14 rfl).trans g14_5
         have g15_6 : a6.tmps[15]? = some (.int .i64 (i : Int)) := hG 0 _ 15 rfl rfl
         have hM6 : Mem (R) w6 := hM
         clear hM hG hO hd
         clear hz5 hd5 hM5 g0_5 g1_5 g12_5 g13_5 g14_5
         refine then_n ?_
         refine wp_seq ?_
         refine region_draw 26 (fun zz e => (#[.slice ad1 xs.length cp1, .int .i64 (i : Int), .pointer (some ⟨b1, o1 + i * 3, none⟩), .agg #[.int .u8 x.c, .int .u16 x.f, .int .u32 x.x], .slice ad2 ys.length cp2, .int .i64 (i : Int), .pointer (some ⟨b2, o2 + i * 3, none⟩), .agg #[.int .u8 y.c, .int .u16 y.f, .int .u32 y.x], .bool (!legB x y)] : Array Value).getD zz undef) (fun k e w => Mem (List.getD [R] k []) w) (fun _ => (0, undef)) [] [] [0, 0, 0, 0, 0, 0, 0, 0, 0] [0, 0, 0, 0, 0, 0, 0, 0, 0] (fun _ _ => false) hz6 (by kernel_rfl) (by kernel_rfl) (by kernel_rfl) (by kernel_rfl) (by kernel_rfl) ?_ (show Mem _ _ from hM6.drew) ?_ ?_
         · exact ⟨fun _ _ _ => rfl, fun _ _ _ => rfl, fun _ _ _ => rfl, fun _ _ _ => rfl, fun _ _ _ => rfl, fun _ _ _ => rfl, fun _ _ _ => rfl, fun _ _ _ => rfl, fun _ _ _ => rfl, trivial⟩
         ·
          refine ⟨?_, ?_, ?_, ?_, ?_, ?_, ?_, ?_, ?_, trivial⟩
          · exact op2 (a := 0) rfl fun e w ρ (hM : Mem _ w) E => res_ok (x_move rfl (E.o 0 _ rfl g0_6)) (goes_still rfl rfl hM)
          · exact op2 (a := 0) rfl fun e w ρ (hM : Mem _ w) E => res_ok (x_move rfl (E.o 5 _ rfl g5_6)) (goes_still rfl rfl hM)
          ·
           refine op2 (a := 0) rfl fun e w ρ (hM : Mem _ w) E => ?_
           have e16 : ρ (.tmp 16) = .slice ad1 xs.length cp1 := E.d 0 _ 16 rfl rfl rfl
           have e17 : ρ (.tmp 17) = .int .i64 (i : Int) := E.d 1 _ 17 rfl rfl rfl
           exact res_ok (x_idx (n := 3) (i := i) rfl (show _ = Value.slice (some ⟨b1, o1, none⟩) (xs.length) cp1 from by rw [← ha1]; exact e16) (e17) (by kernel_rfl) (by omega) rfl) (goes_still rfl rfl hM)
          ·
           refine op2 (a := 0) rfl fun e w ρ (hM : Mem _ w) E => ?_
           have e18 : ρ (.tmp 18) = .pointer (some ⟨b1, o1 + i * 3, none⟩) := E.d 2 _ 18 rfl rfl rfl
           exact res_ok (x_loads rfl (e18) (by kernel_rfl) (load_at (cs := [.int .u8 x.c, .int .u16 x.f, .int .u32 x.x]) rfl (hc1 w hM))) (goes_still rfl rfl hM)
          · exact op2 (a := 0) rfl fun e w ρ (hM : Mem _ w) E => res_ok (x_move rfl (E.o 1 _ rfl g1_6)) (goes_still rfl rfl hM)
          · exact op2 (a := 0) rfl fun e w ρ (hM : Mem _ w) E => res_ok (x_move rfl (E.o 5 _ rfl g5_6)) (goes_still rfl rfl hM)
          ·
           refine op2 (a := 0) rfl fun e w ρ (hM : Mem _ w) E => ?_
           have e20 : ρ (.tmp 20) = .slice ad2 ys.length cp2 := E.d 4 _ 20 rfl rfl rfl
           have e21 : ρ (.tmp 21) = .int .i64 (i : Int) := E.d 5 _ 21 rfl rfl rfl
           exact res_ok (x_idx (n := 3) (i := i) rfl (show _ = Value.slice (some ⟨b2, o2, none⟩) (ys.length) cp2 from by rw [← ha2]; exact e20) (e21) (by kernel_rfl) (by omega) rfl) (goes_still rfl rfl hM)
          ·
           refine op2 (a := 0) rfl fun e w ρ (hM : Mem _ w) E => ?_
           have e22 : ρ (.tmp 22) = .pointer (some ⟨b2, o2 + i * 3, none⟩) := E.d 6 _ 22 rfl rfl rfl
           exact res_ok (x_loads rfl (e22) (by kernel_rfl) (load_at (cs := [.int .u8 y.c, .int .u16 y.f, .int .u32 y.x]) rfl (hc2 w hM))) (goes_still rfl rfl hM)
          · exact op2 (a := 0) rfl fun e w ρ (hM : Mem _ w) E => res_ok (x_neA rfl (E.d 3 _ 19 rfl rfl rfl) (E.d 7 _ 23 rfl rfl rfl) (by kernel_rfl) (eq_leg x y w) rfl) (goes_still rfl rfl hM)
         ·
          intro e a7 w7 hz7 hd hG hO hM
          have hd7 := hd.trans hd6
          have g0_7 := (hO 0 rfl).trans g0_6
          have g1_7 := (hO 1 rfl).trans g1_6
          have g5_7 := (hO 5 rfl).trans g5_6
          have g12_7 := (hO 12 rfl).trans g12_6
          have g13_7 := (hO 13 rfl).trans g13_6
          have g14_7 := (hO 14 rfl).trans g14_6
          have g15_7 := (hO 15 rfl).trans g15_6
          have g16_7 : a7.tmps[16]? = some (.slice ad1 xs.length cp1) := hG 0 _ 16 rfl rfl
          have g17_7 : a7.tmps[17]? = some (.int .i64 (i : Int)) := hG 1 _ 17 rfl rfl
          have g18_7 : a7.tmps[18]? = some (.pointer (some ⟨b1, o1 + i * 3, none⟩)) := hG 2 _ 18 rfl rfl
          have g19_7 : a7.tmps[19]? = some (.agg #[.int .u8 x.c, .int .u16 x.f, .int .u32 x.x]) := hG 3 _ 19 rfl rfl
          have g20_7 : a7.tmps[20]? = some (.slice ad2 ys.length cp2) := hG 4 _ 20 rfl rfl
          have g21_7 : a7.tmps[21]? = some (.int .i64 (i : Int)) := hG 5 _ 21 rfl rfl
          have g22_7 : a7.tmps[22]? = some (.pointer (some ⟨b2, o2 + i * 3, none⟩)) := hG 6 _ 22 rfl rfl
          have g23_7 : a7.tmps[23]? = some (.agg #[.int .u8 y.c, .int .u16 y.f, .int .u32 y.x]) := hG 7 _ 23 rfl rfl
          have g24_7 : a7.tmps[24]? = some (.bool (!legB x y)) := hG 8 _ 24 rfl rfl
          have hM7 : Mem (R) w7 := hM
          clear hM hG hO hd
          clear hz6 hd6 hM6 g0_6 g1_6 g5_6 g12_6 g13_6 g14_6 g15_6
          refine then_n ?_
          cases hc3 : !legB x y
          ·
           refine cond_f (g24_7.trans (by rw [hc3])) ?_
           have hnb := hc3
           refine wp_skip ?_
           refine blk_n ?_
           refine then_n ?_
           refine region_seq 26 (fun zz e => (#[.int .i64 ((i + 1 : Nat) : Int), .int .i64 ((i + 1 : Nat) : Int)] : Array Value).getD zz undef) (fun k e w => Mem (List.getD [R] k []) w) (fun _ => (0, undef)) [] [0, 0] (fun i t => (i == 0 && t == 13)) hz7 (by kernel_rfl) (by kernel_rfl) (by kernel_rfl) ?_ (show Mem _ _ from hM7) ?_ ?_
           · exact ⟨fun _ _ _ => rfl, fun _ _ _ => rfl, trivial⟩
           ·
            refine ⟨?_, ?_, trivial⟩
            · exact op2 (a := 0) rfl fun e w ρ (hM : Mem _ w) E => res_ok (x_add rfl (E.o 13 _ rfl g13_7) (E.c _) ((wr_i64 (by omega)).trans (by omega))) (goes_still rfl rfl hM)
            · exact op2 (a := 0) rfl fun e w ρ (hM : Mem _ w) E => res_ok (x_move rfl (E.d 0 _ 25 rfl rfl rfl)) (goes_still rfl rfl hM)
           ·
            intro e a8 w8 hz8 hd hG hO hM
            have hd8 := hd.trans hd7
            have g0_8 := (hO 0 rfl).trans g0_7
            have g1_8 := (hO 1 rfl).trans g1_7
            have g5_8 := (hO 5 rfl).trans g5_7
            have g12_8 := (hO 12 rfl).trans g12_7
            have g13_8 : a8.tmps[13]? = some (.int .i64 ((i + 1 : Nat) : Int)) := hG 1 _ 13 rfl rfl
            have g14_8 := (hO 14 rfl).trans g14_7
            have g15_8 := (hO 15 rfl).trans g15_7
            have g16_8 := (hO 16 rfl).trans g16_7
            have g17_8 := (hO 17 rfl).trans g17_7
            have g18_8 := (hO 18 rfl).trans g18_7
            have g19_8 := (hO 19 rfl).trans g19_7
            have g20_8 := (hO 20 rfl).trans g20_7
            have g21_8 := (hO 21 rfl).trans g21_7
            have g22_8 := (hO 22 rfl).trans g22_7
            have g23_8 := (hO 23 rfl).trans g23_7
            have g24_8 := (hO 24 rfl).trans g24_7
            have g25_8 : a8.tmps[25]? = some (.int .i64 ((i + 1 : Nat) : Int)) := hG 0 _ 25 rfl rfl
            have hM8 : Mem (R) w8 := hM
            clear hM hG hO hd
            clear hz7 hd7 hM7 g0_7 g1_7 g5_7 g12_7 g13_7 g14_7 g15_7 g16_7 g17_7 g18_7 g19_7 g20_7 g21_7 g22_7 g23_7 g24_7
            refine then_n ?_
            exact ⟨i + 1, by omega, ⟨hz8, hd8, g0_8, g1_8, g12_8, (by have h := g13_8; exact h.trans (by congr 2 <;> first | rfl | omega)), (hM8), (by omega), (by rw [← hp, listB_step hx hy, show legB x y = true from by simpa using hnb, Bool.true_and])⟩⟩
          ·
           refine cond_t (g24_7.trans (by rw [hc3])) ?_
           refine wp_seq ?_
           refine region_seq 26 (fun zz e => (#[.bool false] : Array Value).getD zz undef) (fun k e w => Mem (List.getD [R] k []) w) (fun _ => (0, undef)) [] [0] (fun _ _ => false) hz7 (by kernel_rfl) (by kernel_rfl) (by kernel_rfl) ?_ (show Mem _ _ from hM7) ?_ ?_
           · exact ⟨fun _ _ _ => rfl, trivial⟩
           ·
            refine ⟨?_, trivial⟩
            · exact op2 (a := 0) rfl fun e w ρ (hM : Mem _ w) E => res_ok (x_assign rfl (E.c _)) (goes_still rfl rfl hM)
           ·
            intro e a9 w9 hz9 hd hG hO hM
            have hd9 := hd.trans hd7
            have g0_9 := (hO 0 rfl).trans g0_7
            have g1_9 := (hO 1 rfl).trans g1_7
            have g4_9 : a9.tmps[4]? = some (.bool false) := hG 0 _ 4 rfl rfl
            have g5_9 := (hO 5 rfl).trans g5_7
            have g12_9 := (hO 12 rfl).trans g12_7
            have g13_9 := (hO 13 rfl).trans g13_7
            have g14_9 := (hO 14 rfl).trans g14_7
            have g15_9 := (hO 15 rfl).trans g15_7
            have g16_9 := (hO 16 rfl).trans g16_7
            have g17_9 := (hO 17 rfl).trans g17_7
            have g18_9 := (hO 18 rfl).trans g18_7
            have g19_9 := (hO 19 rfl).trans g19_7
            have g20_9 := (hO 20 rfl).trans g20_7
            have g21_9 := (hO 21 rfl).trans g21_7
            have g22_9 := (hO 22 rfl).trans g22_7
            have g23_9 := (hO 23 rfl).trans g23_7
            have g24_9 := (hO 24 rfl).trans g24_7
            have hM9 : Mem (R) w9 := hM
            clear hM hG hO hd
            clear hz7 hd7 hM7 g0_7 g1_7 g5_7 g12_7 g13_7 g14_7 g15_7 g16_7 g17_7 g18_7 g19_7 g20_7 g21_7 g22_7 g23_7 g24_7
            refine then_n ?_
            refine wp_ret ?_
            refine blk_r ?_
            refine then_r ?_
            refine then_r ?_
            refine blk_r ?_
            refine then_r ?_
            refine ret_1 Try.results37 hd9 g4_9 ?_
            refine ⟨?_, hM9⟩
            have hb : legB x y = false := by simpa using hc3
            rw [← hp, listB_step hx hy, hb]; rfl
       ·
        refine cond_f (g14_5.trans (by rw [decide_eq_false hic])) ?_
        refine wp_exit ?_
        refine then_x ?_
        refine then_x ?_
        refine blk_x ?_
        refine then_n ?_
        refine wp_seq ?_
        refine region_seq 26 (fun zz e => (#[.bool true] : Array Value).getD zz undef) (fun k e w => Mem (List.getD [R] k []) w) (fun _ => (0, undef)) [] [0] (fun _ _ => false) hz5 (by kernel_rfl) (by kernel_rfl) (by kernel_rfl) ?_ (show Mem _ _ from hM5) ?_ ?_
        · exact ⟨fun _ _ _ => rfl, trivial⟩
        ·
         refine ⟨?_, trivial⟩
         · exact op2 (a := 0) rfl fun e w ρ (hM : Mem _ w) E => res_ok (x_assign rfl (E.c _)) (goes_still rfl rfl hM)
        ·
         intro e a10 w10 hz10 hd hG hO hM
         have hd10 := hd.trans hd5
         have g4_10 : a10.tmps[4]? = some (.bool true) := hG 0 _ 4 rfl rfl
         have hM10 : Mem (R) w10 := hM
         clear hM hG hO hd
         clear hz5 hd5 hM5 g0_5 g1_5 g12_5 g13_5 g14_5
         refine then_n ?_
         refine wp_ret ?_
         refine ret_1 Try.results37 hd10 g4_10 ?_
         refine ⟨by rw [← hp, listB_end (by omega) (by omega)], hM10⟩
   ·
    refine cond_t (g10_2.trans (by rw [decide_eq_false hlc]; rfl)) ?_
    refine wp_seq ?_
    refine region_seq 26 (fun zz e => (#[.bool false] : Array Value).getD zz undef) (fun k e w => Mem (List.getD [R] k []) w) (fun _ => (0, undef)) [] [0] (fun _ _ => false) hz2 (by kernel_rfl) (by kernel_rfl) (by kernel_rfl) ?_ (show Mem _ _ from hM2) ?_ ?_
    · exact ⟨fun _ _ _ => rfl, trivial⟩
    ·
     refine ⟨?_, trivial⟩
     · exact op2 (a := 0) rfl fun e w ρ (hM : Mem _ w) E => res_ok (x_assign rfl (E.c _)) (goes_still rfl rfl hM)
    ·
     intro e a11 w11 hz11 hd hG hO hM
     have hd11 := hd.trans hd2
     have g0_11 := (hO 0 rfl).trans g0_2
     have g1_11 := (hO 1 rfl).trans g1_2
     have g4_11 : a11.tmps[4]? = some (.bool false) := hG 0 _ 4 rfl rfl
     have hM11 : Mem (R) w11 := hM
     clear hM hG hO hd
     clear hz2 hd2 hM2 g0_2 g1_2 g4_2 g10_2
     refine then_n ?_
     refine wp_ret ?_
     refine then_r ?_
     refine ret_1 Try.results37 hd11 g4_11 ?_
     refine ⟨by rw [listB_len (by omega)], hM11⟩
set_option maxRecDepth 100000 in
set_option maxHeartbeats 8000000 in
theorem equal_Tax (ad1 ad2 : Option Addr) (cp1 cp2 : Nat) (xs ys : List TaxV) (R : List Chunk) (w : World) (hM : Mem R w) (hR1 : Reads R ad1 (cellsL taxE xs)) (hR2 : Reads R ad2 (cellsL taxE ys)) (hx : xs.length ≤ 1000000) (hy : ys.length ≤ 1000000) :
  Calls Try.prog 38 #[.slice ad1 xs.length cp1, .slice ad2 ys.length cp2] w fun e w' => e = .returned (.bool (listB taxB xs ys)) ∧ Mem R w' := by
 refine enter Try.func38 rfl Try.ntmps38 (Nat.le_of_ble_eq_true rfl) ?_
 intro a0 hz0 hd0 hg0
 have g0_0 : a0.tmps[0]? = some (.slice ad1 xs.length cp1) := hg0 0 _ rfl
 have g1_0 : a0.tmps[1]? = some (.slice ad2 ys.length cp2) := hg0 1 _ rfl
 clear hg0
 have hM0 : Mem (R) _ := hM
 refine wp_seq ?_
 refine region_seq 26 (fun zz e => (#[.bool false] : Array Value).getD zz undef) (fun k e w => Mem (List.getD [R] k []) w) (fun _ => (0, undef)) [] [0] (fun _ _ => false) hz0 (by kernel_rfl) (by kernel_rfl) (by kernel_rfl) ?_ (show Mem _ _ from hM0) ?_ ?_
 · exact ⟨fun _ _ _ => rfl, trivial⟩
 ·
  refine ⟨?_, trivial⟩
  · exact op2 (a := 0) rfl fun e w ρ (hM : Mem _ w) E => res_ok (x_assign rfl (E.c _)) (goes_still rfl rfl hM)
 ·
  intro e a1 w1 hz1 hd hG hO hM
  have hd1 := hd.trans hd0
  have g0_1 := (hO 0 rfl).trans g0_0
  have g1_1 := (hO 1 rfl).trans g1_0
  have g4_1 : a1.tmps[4]? = some (.bool false) := hG 0 _ 4 rfl rfl
  have hM1 : Mem (R) w1 := hM
  clear hM hG hO hd
  clear hz0 hd0 hM0 g0_0 g1_0
  refine then_n ?_
  refine wp_seq ?_
  refine wp_seq ?_
  refine region_seq 26 (fun zz e => (#[.slice ad1 xs.length cp1, .int .i64 (xs.length : Int), .slice ad2 ys.length cp2, .int .i64 (ys.length : Int), .bool (!decide ((xs.length : Int) = (ys.length : Int)))] : Array Value).getD zz undef) (fun k e w => Mem (List.getD [R] k []) w) (fun _ => (0, undef)) [] [0, 0, 0, 0, 0] (fun _ _ => false) hz1 (by kernel_rfl) (by kernel_rfl) (by kernel_rfl) ?_ (show Mem _ _ from hM1) ?_ ?_
  · exact ⟨fun _ _ _ => rfl, fun _ _ _ => rfl, fun _ _ _ => rfl, fun _ _ _ => rfl, fun _ _ _ => rfl, trivial⟩
  ·
   refine ⟨?_, ?_, ?_, ?_, ?_, trivial⟩
   · exact op2 (a := 0) rfl fun e w ρ (hM : Mem _ w) E => res_ok (x_move rfl (E.o 0 _ rfl g0_1)) (goes_still rfl rfl hM)
   ·
    refine op2 (a := 0) rfl fun e w ρ (hM : Mem _ w) E => ?_
    have e6 : ρ (.tmp 6) = .slice ad1 xs.length cp1 := E.d 0 _ 6 rfl rfl rfl
    exact res_ok (x_len (n := 2) rfl rfl rfl rfl (e6) (by kernel_rfl)) (goes_still rfl rfl hM)
   · exact op2 (a := 0) rfl fun e w ρ (hM : Mem _ w) E => res_ok (x_move rfl (E.o 1 _ rfl g1_1)) (goes_still rfl rfl hM)
   ·
    refine op2 (a := 0) rfl fun e w ρ (hM : Mem _ w) E => ?_
    have e8 : ρ (.tmp 8) = .slice ad2 ys.length cp2 := E.d 2 _ 8 rfl rfl rfl
    exact res_ok (x_len (n := 2) rfl rfl rfl rfl (e8) (by kernel_rfl)) (goes_still rfl rfl hM)
   · exact op2 (a := 0) rfl fun e w ρ (hM : Mem _ w) E => res_ok (x_neq rfl (E.d 1 _ 7 rfl rfl rfl) (E.d 3 _ 9 rfl rfl rfl) rfl) (goes_still rfl rfl hM)
  ·
   intro e a2 w2 hz2 hd hG hO hM
   have hd2 := hd.trans hd1
   have g0_2 := (hO 0 rfl).trans g0_1
   have g1_2 := (hO 1 rfl).trans g1_1
   have g4_2 := (hO 4 rfl).trans g4_1
   have g10_2 : a2.tmps[10]? = some (.bool (!decide ((xs.length : Int) = (ys.length : Int)))) := hG 4 _ 10 rfl rfl
   have hM2 : Mem (R) w2 := hM
   clear hM hG hO hd
   clear hz1 hd1 hM1 g0_1 g1_1 g4_1
   refine then_n ?_
   by_cases hlc : (xs.length : Int) = (ys.length : Int)
   ·
    refine cond_f (g10_2.trans (by rw [decide_eq_true hlc]; rfl)) ?_
    refine wp_skip ?_
    refine then_n ?_
    refine wp_seq ?_
    refine wp_seq ?_
    refine region_seq 26 (fun zz e => (#[.slice ad1 xs.length cp1, .int .i64 (xs.length : Int), .int .i64 0] : Array Value).getD zz undef) (fun k e w => Mem (List.getD [R] k []) w) (fun _ => (0, undef)) [] [0, 0, 0] (fun _ _ => false) hz2 (by kernel_rfl) (by kernel_rfl) (by kernel_rfl) ?_ (show Mem _ _ from hM2) ?_ ?_
    · exact ⟨fun _ _ _ => rfl, fun _ _ _ => rfl, fun _ _ _ => rfl, trivial⟩
    ·
     refine ⟨?_, ?_, ?_, trivial⟩
     · exact op2 (a := 0) rfl fun e w ρ (hM : Mem _ w) E => res_ok (x_move rfl (E.o 0 _ rfl g0_2)) (goes_still rfl rfl hM)
     ·
      refine op2 (a := 0) rfl fun e w ρ (hM : Mem _ w) E => ?_
      have e11 : ρ (.tmp 11) = .slice ad1 xs.length cp1 := E.d 0 _ 11 rfl rfl rfl
      exact res_ok (x_len (n := 2) rfl rfl rfl rfl (e11) (by kernel_rfl)) (goes_still rfl rfl hM)
     · exact op2 (a := 0) rfl fun e w ρ (hM : Mem _ w) E => res_ok (x_move rfl (E.c _)) (goes_still rfl rfl hM)
    ·
     intro e a3 w3 hz3 hd hG hO hM
     have hd3 := hd.trans hd2
     have g0_3 := (hO 0 rfl).trans g0_2
     have g1_3 := (hO 1 rfl).trans g1_2
     have g4_3 := (hO 4 rfl).trans g4_2
     have g12_3 : a3.tmps[12]? = some (.int .i64 (xs.length : Int)) := hG 1 _ 12 rfl rfl
     have g13_3 : a3.tmps[13]? = some (.int .i64 0) := hG 2 _ 13 rfl rfl
     have hM3 : Mem (R) w3 := hM
     clear hM hG hO hd
     clear hz2 hd2 hM2 g0_2 g1_2 g4_2 g10_2
     refine then_n ?_
     refine wp_block ?_
     refine loopx (X := Nat) (fun i aa ww => aa.tmps.size = 26 ∧ aa.defers = [] ∧ aa.tmps[0]? = some (.slice ad1 xs.length cp1) ∧ aa.tmps[1]? = some (.slice ad2 ys.length cp2) ∧ aa.tmps[12]? = some (.int .i64 (xs.length : Int)) ∧ aa.tmps[13]? = some (.int .i64 (i : Int)) ∧ Mem (R) ww ∧ i ≤ xs.length ∧ listB taxB (xs.drop i) (ys.drop i) = listB taxB xs ys) (fun i => xs.length - i) (0) ?_ ?_
     ·
      exact ⟨hz3, hd3, g0_3, g1_3, g12_3, (by have h := g13_3; exact h.trans (by congr 2 <;> first | rfl | omega)), (hM3), (Nat.zero_le _), (rfl)⟩
     ·
      clear hz3 hd3 hM3 g0_3 g1_3 g4_3 g12_3 g13_3
      rintro i a4 w4 hI
      obtain ⟨hz4, hd4, g0_4, g1_4, g12_4, g13_4, hM4, hi, hp⟩ := hI
      refine wp_seq ?_
      refine region_seq 26 (fun zz e => (#[.bool (decide ((i : Int) < (xs.length : Int)))] : Array Value).getD zz undef) (fun k e w => Mem (List.getD [R] k []) w) (fun _ => (0, undef)) [] [0] (fun _ _ => false) hz4 (by kernel_rfl) (by kernel_rfl) (by kernel_rfl) ?_ (show Mem _ _ from hM4) ?_ ?_
      · exact ⟨fun _ _ _ => rfl, trivial⟩
      ·
       refine ⟨?_, trivial⟩
       · exact op2 (a := 0) rfl fun e w ρ (hM : Mem _ w) E => res_ok (x_lss rfl (E.o 13 _ rfl g13_4) (E.o 12 _ rfl g12_4) rfl) (goes_still rfl rfl hM)
      ·
       intro e a5 w5 hz5 hd hG hO hM
       have hd5 := hd.trans hd4
       have g0_5 := (hO 0 rfl).trans g0_4
       have g1_5 := (hO 1 rfl).trans g1_4
       have g12_5 := (hO 12 rfl).trans g12_4
       have g13_5 := (hO 13 rfl).trans g13_4
       have g14_5 : a5.tmps[14]? = some (.bool (decide ((i : Int) < (xs.length : Int)))) := hG 0 _ 14 rfl rfl
       have hM5 : Mem (R) w5 := hM
       clear hM hG hO hd
       clear hz4 hd4 hM4 g0_4 g1_4 g12_4 g13_4
       refine then_n ?_
       refine wp_seq ?_
       by_cases hic : (i : Int) < (xs.length : Int)
       ·
        refine cond_t (g14_5.trans (by rw [decide_eq_true hic])) ?_
        obtain ⟨x, hx⟩ := list_at (show i < xs.length by omega)
        obtain ⟨y, hy⟩ := list_at (show i < ys.length by omega)
        obtain ⟨b1, o1, ha1, hc1⟩ := hR1.elem (show ∀ x, (taxE x).length = 2 from fun _ => rfl) (by decide) hx hM5
        obtain ⟨b2, o2, ha2, hc2⟩ := hR2.elem (show ∀ x, (taxE x).length = 2 from fun _ => rfl) (by decide) hy hM5
        refine wp_skip ?_
        refine then_n ?_
        refine wp_seq ?_
        refine wp_block ?_
        refine wp_seq ?_
        refine region_seq 26 (fun zz e => (#[.int .i64 (i : Int), .int .i64 (i : Int)] : Array Value).getD zz undef) (fun k e w => Mem (List.getD [R] k []) w) (fun _ => (0, undef)) [] [0, 0] (fun _ _ => false) hz5 (by kernel_rfl) (by kernel_rfl) (by kernel_rfl) ?_ (show Mem _ _ from hM5) ?_ ?_
        · exact ⟨fun _ _ _ => rfl, fun _ _ _ => rfl, trivial⟩
        ·
         refine ⟨?_, ?_, trivial⟩
         · exact op2 (a := 0) rfl fun e w ρ (hM : Mem _ w) E => res_ok (x_move rfl (E.o 13 _ rfl g13_5)) (goes_still rfl rfl hM)
         · exact op2 (a := 0) rfl fun e w ρ (hM : Mem _ w) E => res_ok (x_assign rfl (E.d 0 _ 15 rfl rfl rfl)) (goes_still rfl rfl hM)
        ·
         intro e a6 w6 hz6 hd hG hO hM
         have hd6 := hd.trans hd5
         have g0_6 := (hO 0 rfl).trans g0_5
         have g1_6 := (hO 1 rfl).trans g1_5
         have g5_6 : a6.tmps[5]? = some (.int .i64 (i : Int)) := hG 1 _ 5 rfl rfl
         have g12_6 := (hO 12 rfl).trans g12_5
         have g13_6 := (hO 13 rfl).trans g13_5
         have g14_6 := (hO 14 rfl).trans g14_5
         have g15_6 : a6.tmps[15]? = some (.int .i64 (i : Int)) := hG 0 _ 15 rfl rfl
         have hM6 : Mem (R) w6 := hM
         clear hM hG hO hd
         clear hz5 hd5 hM5 g0_5 g1_5 g12_5 g13_5 g14_5
         refine then_n ?_
         refine wp_seq ?_
         refine region_draw 26 (fun zz e => (#[.slice ad1 xs.length cp1, .int .i64 (i : Int), .pointer (some ⟨b1, o1 + i * 2, none⟩), .agg #[.string x.code, .int .i64 x.amt], .slice ad2 ys.length cp2, .int .i64 (i : Int), .pointer (some ⟨b2, o2 + i * 2, none⟩), .agg #[.string y.code, .int .i64 y.amt], .bool (!taxB x y)] : Array Value).getD zz undef) (fun k e w => Mem (List.getD [R] k []) w) (fun _ => (0, undef)) [] [] [0, 0, 0, 0, 0, 0, 0, 0, 0] [0, 0, 0, 0, 0, 0, 0, 0, 0] (fun _ _ => false) hz6 (by kernel_rfl) (by kernel_rfl) (by kernel_rfl) (by kernel_rfl) (by kernel_rfl) ?_ (show Mem _ _ from hM6.drew) ?_ ?_
         · exact ⟨fun _ _ _ => rfl, fun _ _ _ => rfl, fun _ _ _ => rfl, fun _ _ _ => rfl, fun _ _ _ => rfl, fun _ _ _ => rfl, fun _ _ _ => rfl, fun _ _ _ => rfl, fun _ _ _ => rfl, trivial⟩
         ·
          refine ⟨?_, ?_, ?_, ?_, ?_, ?_, ?_, ?_, ?_, trivial⟩
          · exact op2 (a := 0) rfl fun e w ρ (hM : Mem _ w) E => res_ok (x_move rfl (E.o 0 _ rfl g0_6)) (goes_still rfl rfl hM)
          · exact op2 (a := 0) rfl fun e w ρ (hM : Mem _ w) E => res_ok (x_move rfl (E.o 5 _ rfl g5_6)) (goes_still rfl rfl hM)
          ·
           refine op2 (a := 0) rfl fun e w ρ (hM : Mem _ w) E => ?_
           have e16 : ρ (.tmp 16) = .slice ad1 xs.length cp1 := E.d 0 _ 16 rfl rfl rfl
           have e17 : ρ (.tmp 17) = .int .i64 (i : Int) := E.d 1 _ 17 rfl rfl rfl
           exact res_ok (x_idx (n := 2) (i := i) rfl (show _ = Value.slice (some ⟨b1, o1, none⟩) (xs.length) cp1 from by rw [← ha1]; exact e16) (e17) (by kernel_rfl) (by omega) rfl) (goes_still rfl rfl hM)
          ·
           refine op2 (a := 0) rfl fun e w ρ (hM : Mem _ w) E => ?_
           have e18 : ρ (.tmp 18) = .pointer (some ⟨b1, o1 + i * 2, none⟩) := E.d 2 _ 18 rfl rfl rfl
           exact res_ok (x_loads rfl (e18) (by kernel_rfl) (load_at (cs := [.string x.code, .int .i64 x.amt]) rfl (hc1 w hM))) (goes_still rfl rfl hM)
          · exact op2 (a := 0) rfl fun e w ρ (hM : Mem _ w) E => res_ok (x_move rfl (E.o 1 _ rfl g1_6)) (goes_still rfl rfl hM)
          · exact op2 (a := 0) rfl fun e w ρ (hM : Mem _ w) E => res_ok (x_move rfl (E.o 5 _ rfl g5_6)) (goes_still rfl rfl hM)
          ·
           refine op2 (a := 0) rfl fun e w ρ (hM : Mem _ w) E => ?_
           have e20 : ρ (.tmp 20) = .slice ad2 ys.length cp2 := E.d 4 _ 20 rfl rfl rfl
           have e21 : ρ (.tmp 21) = .int .i64 (i : Int) := E.d 5 _ 21 rfl rfl rfl
           exact res_ok (x_idx (n := 2) (i := i) rfl (show _ = Value.slice (some ⟨b2, o2, none⟩) (ys.length) cp2 from by rw [← ha2]; exact e20) (e21) (by kernel_rfl) (by omega) rfl) (goes_still rfl rfl hM)
          ·
           refine op2 (a := 0) rfl fun e w ρ (hM : Mem _ w) E => ?_
           have e22 : ρ (.tmp 22) = .pointer (some ⟨b2, o2 + i * 2, none⟩) := E.d 6 _ 22 rfl rfl rfl
           exact res_ok (x_loads rfl (e22) (by kernel_rfl) (load_at (cs := [.string y.code, .int .i64 y.amt]) rfl (hc2 w hM))) (goes_still rfl rfl hM)
          · exact op2 (a := 0) rfl fun e w ρ (hM : Mem _ w) E => res_ok (x_neA rfl (E.d 3 _ 19 rfl rfl rfl) (E.d 7 _ 23 rfl rfl rfl) (by kernel_rfl) (eq_tax x y w) rfl) (goes_still rfl rfl hM)
         ·
          intro e a7 w7 hz7 hd hG hO hM
          have hd7 := hd.trans hd6
          have g0_7 := (hO 0 rfl).trans g0_6
          have g1_7 := (hO 1 rfl).trans g1_6
          have g5_7 := (hO 5 rfl).trans g5_6
          have g12_7 := (hO 12 rfl).trans g12_6
          have g13_7 := (hO 13 rfl).trans g13_6
          have g14_7 := (hO 14 rfl).trans g14_6
          have g15_7 := (hO 15 rfl).trans g15_6
          have g16_7 : a7.tmps[16]? = some (.slice ad1 xs.length cp1) := hG 0 _ 16 rfl rfl
          have g17_7 : a7.tmps[17]? = some (.int .i64 (i : Int)) := hG 1 _ 17 rfl rfl
          have g18_7 : a7.tmps[18]? = some (.pointer (some ⟨b1, o1 + i * 2, none⟩)) := hG 2 _ 18 rfl rfl
          have g19_7 : a7.tmps[19]? = some (.agg #[.string x.code, .int .i64 x.amt]) := hG 3 _ 19 rfl rfl
          have g20_7 : a7.tmps[20]? = some (.slice ad2 ys.length cp2) := hG 4 _ 20 rfl rfl
          have g21_7 : a7.tmps[21]? = some (.int .i64 (i : Int)) := hG 5 _ 21 rfl rfl
          have g22_7 : a7.tmps[22]? = some (.pointer (some ⟨b2, o2 + i * 2, none⟩)) := hG 6 _ 22 rfl rfl
          have g23_7 : a7.tmps[23]? = some (.agg #[.string y.code, .int .i64 y.amt]) := hG 7 _ 23 rfl rfl
          have g24_7 : a7.tmps[24]? = some (.bool (!taxB x y)) := hG 8 _ 24 rfl rfl
          have hM7 : Mem (R) w7 := hM
          clear hM hG hO hd
          clear hz6 hd6 hM6 g0_6 g1_6 g5_6 g12_6 g13_6 g14_6 g15_6
          refine then_n ?_
          cases hc3 : !taxB x y
          ·
           refine cond_f (g24_7.trans (by rw [hc3])) ?_
           have hnb := hc3
           refine wp_skip ?_
           refine blk_n ?_
           refine then_n ?_
           refine region_seq 26 (fun zz e => (#[.int .i64 ((i + 1 : Nat) : Int), .int .i64 ((i + 1 : Nat) : Int)] : Array Value).getD zz undef) (fun k e w => Mem (List.getD [R] k []) w) (fun _ => (0, undef)) [] [0, 0] (fun i t => (i == 0 && t == 13)) hz7 (by kernel_rfl) (by kernel_rfl) (by kernel_rfl) ?_ (show Mem _ _ from hM7) ?_ ?_
           · exact ⟨fun _ _ _ => rfl, fun _ _ _ => rfl, trivial⟩
           ·
            refine ⟨?_, ?_, trivial⟩
            · exact op2 (a := 0) rfl fun e w ρ (hM : Mem _ w) E => res_ok (x_add rfl (E.o 13 _ rfl g13_7) (E.c _) ((wr_i64 (by omega)).trans (by omega))) (goes_still rfl rfl hM)
            · exact op2 (a := 0) rfl fun e w ρ (hM : Mem _ w) E => res_ok (x_move rfl (E.d 0 _ 25 rfl rfl rfl)) (goes_still rfl rfl hM)
           ·
            intro e a8 w8 hz8 hd hG hO hM
            have hd8 := hd.trans hd7
            have g0_8 := (hO 0 rfl).trans g0_7
            have g1_8 := (hO 1 rfl).trans g1_7
            have g5_8 := (hO 5 rfl).trans g5_7
            have g12_8 := (hO 12 rfl).trans g12_7
            have g13_8 : a8.tmps[13]? = some (.int .i64 ((i + 1 : Nat) : Int)) := hG 1 _ 13 rfl rfl
            have g14_8 := (hO 14 rfl).trans g14_7
            have g15_8 := (hO 15 rfl).trans g15_7
            have g16_8 := (hO 16 rfl).trans g16_7
            have g17_8 := (hO 17 rfl).trans g17_7
            have g18_8 := (hO 18 rfl).trans g18_7
            have g19_8 := (hO 19 rfl).trans g19_7
            have g20_8 := (hO 20 rfl).trans g20_7
            have g21_8 := (hO 21 rfl).trans g21_7
            have g22_8 := (hO 22 rfl).trans g22_7
            have g23_8 := (hO 23 rfl).trans g23_7
            have g24_8 := (hO 24 rfl).trans g24_7
            have g25_8 : a8.tmps[25]? = some (.int .i64 ((i + 1 : Nat) : Int)) := hG 0 _ 25 rfl rfl
            have hM8 : Mem (R) w8 := hM
            clear hM hG hO hd
            clear hz7 hd7 hM7 g0_7 g1_7 g5_7 g12_7 g13_7 g14_7 g15_7 g16_7 g17_7 g18_7 g19_7 g20_7 g21_7 g22_7 g23_7 g24_7
            refine then_n ?_
            exact ⟨i + 1, by omega, ⟨hz8, hd8, g0_8, g1_8, g12_8, (by have h := g13_8; exact h.trans (by congr 2 <;> first | rfl | omega)), (hM8), (by omega), (by rw [← hp, listB_step hx hy, show taxB x y = true from by simpa using hnb, Bool.true_and])⟩⟩
          ·
           refine cond_t (g24_7.trans (by rw [hc3])) ?_
           refine wp_seq ?_
           refine region_seq 26 (fun zz e => (#[.bool false] : Array Value).getD zz undef) (fun k e w => Mem (List.getD [R] k []) w) (fun _ => (0, undef)) [] [0] (fun _ _ => false) hz7 (by kernel_rfl) (by kernel_rfl) (by kernel_rfl) ?_ (show Mem _ _ from hM7) ?_ ?_
           · exact ⟨fun _ _ _ => rfl, trivial⟩
           ·
            refine ⟨?_, trivial⟩
            · exact op2 (a := 0) rfl fun e w ρ (hM : Mem _ w) E => res_ok (x_assign rfl (E.c _)) (goes_still rfl rfl hM)
           ·
            intro e a9 w9 hz9 hd hG hO hM
            have hd9 := hd.trans hd7
            have g0_9 := (hO 0 rfl).trans g0_7
            have g1_9 := (hO 1 rfl).trans g1_7
            have g4_9 : a9.tmps[4]? = some (.bool false) := hG 0 _ 4 rfl rfl
            have g5_9 := (hO 5 rfl).trans g5_7
            have g12_9 := (hO 12 rfl).trans g12_7
            have g13_9 := (hO 13 rfl).trans g13_7
            have g14_9 := (hO 14 rfl).trans g14_7
            have g15_9 := (hO 15 rfl).trans g15_7
            have g16_9 := (hO 16 rfl).trans g16_7
            have g17_9 := (hO 17 rfl).trans g17_7
            have g18_9 := (hO 18 rfl).trans g18_7
            have g19_9 := (hO 19 rfl).trans g19_7
            have g20_9 := (hO 20 rfl).trans g20_7
            have g21_9 := (hO 21 rfl).trans g21_7
            have g22_9 := (hO 22 rfl).trans g22_7
            have g23_9 := (hO 23 rfl).trans g23_7
            have g24_9 := (hO 24 rfl).trans g24_7
            have hM9 : Mem (R) w9 := hM
            clear hM hG hO hd
            clear hz7 hd7 hM7 g0_7 g1_7 g5_7 g12_7 g13_7 g14_7 g15_7 g16_7 g17_7 g18_7 g19_7 g20_7 g21_7 g22_7 g23_7 g24_7
            refine then_n ?_
            refine wp_ret ?_
            refine blk_r ?_
            refine then_r ?_
            refine then_r ?_
            refine blk_r ?_
            refine then_r ?_
            refine ret_1 Try.results38 hd9 g4_9 ?_
            refine ⟨?_, hM9⟩
            have hb : taxB x y = false := by simpa using hc3
            rw [← hp, listB_step hx hy, hb]; rfl
       ·
        refine cond_f (g14_5.trans (by rw [decide_eq_false hic])) ?_
        refine wp_exit ?_
        refine then_x ?_
        refine then_x ?_
        refine blk_x ?_
        refine then_n ?_
        refine wp_seq ?_
        refine region_seq 26 (fun zz e => (#[.bool true] : Array Value).getD zz undef) (fun k e w => Mem (List.getD [R] k []) w) (fun _ => (0, undef)) [] [0] (fun _ _ => false) hz5 (by kernel_rfl) (by kernel_rfl) (by kernel_rfl) ?_ (show Mem _ _ from hM5) ?_ ?_
        · exact ⟨fun _ _ _ => rfl, trivial⟩
        ·
         refine ⟨?_, trivial⟩
         · exact op2 (a := 0) rfl fun e w ρ (hM : Mem _ w) E => res_ok (x_assign rfl (E.c _)) (goes_still rfl rfl hM)
        ·
         intro e a10 w10 hz10 hd hG hO hM
         have hd10 := hd.trans hd5
         have g4_10 : a10.tmps[4]? = some (.bool true) := hG 0 _ 4 rfl rfl
         have hM10 : Mem (R) w10 := hM
         clear hM hG hO hd
         clear hz5 hd5 hM5 g0_5 g1_5 g12_5 g13_5 g14_5
         refine then_n ?_
         refine wp_ret ?_
         refine ret_1 Try.results38 hd10 g4_10 ?_
         refine ⟨by rw [← hp, listB_end (by omega) (by omega)], hM10⟩
   ·
    refine cond_t (g10_2.trans (by rw [decide_eq_false hlc]; rfl)) ?_
    refine wp_seq ?_
    refine region_seq 26 (fun zz e => (#[.bool false] : Array Value).getD zz undef) (fun k e w => Mem (List.getD [R] k []) w) (fun _ => (0, undef)) [] [0] (fun _ _ => false) hz2 (by kernel_rfl) (by kernel_rfl) (by kernel_rfl) ?_ (show Mem _ _ from hM2) ?_ ?_
    · exact ⟨fun _ _ _ => rfl, trivial⟩
    ·
     refine ⟨?_, trivial⟩
     · exact op2 (a := 0) rfl fun e w ρ (hM : Mem _ w) E => res_ok (x_assign rfl (E.c _)) (goes_still rfl rfl hM)
    ·
     intro e a11 w11 hz11 hd hG hO hM
     have hd11 := hd.trans hd2
     have g0_11 := (hO 0 rfl).trans g0_2
     have g1_11 := (hO 1 rfl).trans g1_2
     have g4_11 : a11.tmps[4]? = some (.bool false) := hG 0 _ 4 rfl rfl
     have hM11 : Mem (R) w11 := hM
     clear hM hG hO hd
     clear hz2 hd2 hM2 g0_2 g1_2 g4_2 g10_2
     refine then_n ?_
     refine wp_ret ?_
     refine then_r ?_
     refine ret_1 Try.results38 hd11 g4_11 ?_
     refine ⟨by rw [listB_len (by omega)], hM11⟩
theorem emptyRow {cs : List Chunk} {w : World} (h : Mem cs w) (E : TypeId) (size : Nat) : Mem (rowC E size (.slice (some ⟨w.heap.size, 0, none⟩) 0 0) 0 [] :: cs) (w.alloc (.cells #[] E)) :=
 h.fresh (below_alloc _ _) (fun k => k = w.heap.size) ⟨fun g hg => by cases hg; rfl, by simp, .inr ⟨w.heap.size, 0, #[], rfl, ⟨E, (0, 0), (fun _ h => by cases h; rfl), show (w.heap.push _)[w.heap.size]? = _ from Array.getElem?_push_size, noFz_none _⟩, Nat.le_refl _, by decide, by simp, by simp⟩⟩ (fun k hk => by subst hk; exact ⟨Nat.le_refl _, by simp⟩)
theorem legE_one : ∀ x, ∀ v ∈ legE x, v.oneCell' = true := by
 intro x v hv
 simp [legE] at hv
 rcases hv with rfl | rfl | rfl <;> rfl
theorem taxE_one : ∀ x, ∀ v ∈ taxE x, v.oneCell' = true := by
 intro x v hv
 simp [taxE] at hv
 rcases hv with rfl | rfl <;> rfl
theorem none_nil {α : Type} {enc : α → List Value} {size : Nat} (hk : ∀ x, (enc x).length = size) (hs : 0 < size) {R : List Chunk} {a : Option Addr} {l : List α} (h : Reads R a (cellsL enc l)) {w : World} (hw : Mem R w) (ha : a.isNone = true) : l = [] := by
 cases l with
 | nil => rfl
 | cons x l =>
  obtain ⟨b, o, e, -⟩ := h.elem hk hs (i := 0) (x := x) rfl hw
  subst e; cases ha
set_option maxRecDepth 100000 in
set_option maxHeartbeats 8000000 in
theorem clone_Leg (a : Option Addr) (c : Nat) (xs : List LegV) (R : List Chunk) (w : World) (hM : Mem R w) (hR : Reads R a (cellsL legE xs)) (hx : xs.length ≤ 1000000) :
  Calls Try.prog 25 #[.slice a xs.length c] w fun e w' => ∃ v, e = .returned v ∧ Mem (rowC 36 3 v xs.length (cellsL legE xs) :: R) w' := by
 refine enter Try.func25 rfl Try.ntmps25 (Nat.le_of_ble_eq_true rfl) ?_
 intro a0 hz0 hd0 hg0
 have g0_0 : a0.tmps[0]? = some (.slice a xs.length c) := hg0 0 _ rfl
 clear hg0
 have hM0 : Mem (R) _ := hM
 refine wp_seq ?_
 refine region_seq 8 (fun zz e => (#[.slice none 0 0] : Array Value).getD zz undef) (fun k e w => Mem (List.getD [R] k []) w) (fun _ => (0, undef)) [] [0] (fun _ _ => false) hz0 (by kernel_rfl) (by kernel_rfl) (by kernel_rfl) ?_ (show Mem _ _ from hM0) ?_ ?_
 · exact ⟨fun _ _ _ => rfl, trivial⟩
 ·
  refine ⟨?_, trivial⟩
  · exact op2 (a := 0) rfl fun e w ρ (hM : Mem _ w) E => res_ok (x_assign rfl (E.c _)) (goes_still rfl rfl hM)
 ·
  intro e a1 w1 hz1 hd hG hO hM
  have hd1 := hd.trans hd0
  have g0_1 := (hO 0 rfl).trans g0_0
  have g2_1 : a1.tmps[2]? = some (.slice none 0 0) := hG 0 _ 2 rfl rfl
  have hM1 : Mem (R) w1 := hM
  clear hM hG hO hd
  clear hz0 hd0 hM0 g0_0
  refine then_n ?_
  refine wp_seq ?_
  refine wp_seq ?_
  refine region_seq 8 (fun zz e => (#[.slice a xs.length c, .bool a.isNone] : Array Value).getD zz undef) (fun k e w => Mem (List.getD [R] k []) w) (fun _ => (0, undef)) [] [0, 0] (fun _ _ => false) hz1 (by kernel_rfl) (by kernel_rfl) (by kernel_rfl) ?_ (show Mem _ _ from hM1) ?_ ?_
  · exact ⟨fun _ _ _ => rfl, fun _ _ _ => rfl, trivial⟩
  ·
   refine ⟨?_, ?_, trivial⟩
   · exact op2 (a := 0) rfl fun e w ρ (hM : Mem _ w) E => res_ok (x_move rfl (E.o 0 _ rfl g0_1)) (goes_still rfl rfl hM)
   · exact op2 (a := 0) rfl fun e w ρ (hM : Mem _ w) E => res_ok (x_eqNil Try.underlying25 rfl (E.d 0 _ 3 rfl rfl rfl) (E.c _) rfl) (goes_still rfl rfl hM)
  ·
   intro e a2 w2 hz2 hd hG hO hM
   have hd2 := hd.trans hd1
   have g0_2 := (hO 0 rfl).trans g0_1
   have g2_2 := (hO 2 rfl).trans g2_1
   have g4_2 : a2.tmps[4]? = some (.bool a.isNone) := hG 1 _ 4 rfl rfl
   have hM2 : Mem (R) w2 := hM
   clear hM hG hO hd
   clear hz1 hd1 hM1 g0_1 g2_1
   refine then_n ?_
   cases hc1 : a.isNone
   ·
    refine cond_f (g4_2.trans (by rw [hc1])) ?_
    obtain ⟨ad, rfl⟩ : ∃ ad, a = some ad := by
          cases a with
          | none => cases hc1
          | some ad => exact ⟨ad, rfl⟩
    refine wp_skip ?_
    refine then_n ?_
    refine wp_seq ?_
    refine region_seq 8 (fun zz e => (#[.slice (some ⟨(e 0).1, 0, none⟩) 0 0, .slice (some ad) xs.length c, (e 1).2, (e 1).2] : Array Value).getD zz undef) (fun k e w => Mem (List.getD [R, rowC 36 3 (.slice (some ⟨(e 0).1, 0, none⟩) 0 0) 0 [] :: R, rowC 36 3 (e 1).2 xs.length (cellsL legE xs) :: R] k []) w) (fun _ => (0, undef)) [0, 2] [0, 1, 1, 2] (fun _ _ => false) hz2 (by kernel_rfl) (by kernel_rfl) (by kernel_rfl) ?_ (show Mem _ _ from hM2) ?_ ?_
    · exact ⟨fun e e' h => congrArg (fun x : Rv => (.slice (some ⟨x.1, 0, none⟩) 0 0 : Value)) (h 0 (by decide)), fun _ _ _ => rfl, fun e e' h => congrArg (fun x : Rv => (x.2 : Value)) (h 1 (by decide)), fun e e' h => congrArg (fun x : Rv => (x.2 : Value)) (h 1 (by decide)), trivial⟩
    ·
     refine ⟨?_, ?_, ?_, ?_, trivial⟩
     ·
      refine op2 (a := 0) rfl fun e w ρ (hM : Mem _ w) E => ?_
      exact res_ok (v := .slice (some ⟨w.heap.size, 0, none⟩) 0 0) (w' := w.alloc (.cells #[] 36)) (by simp [go_sem, execOp, Instr.buildSlice, Instr.fill, newRow]) (goes_tick rfl (w.heap.size, undef) rfl (emptyRow hM 36 3))
     · exact op2 (a := 1) rfl fun e w ρ (hM : Mem _ w) E => res_ok (x_move rfl (E.o 0 _ rfl g0_2)) (goes_still rfl rfl hM)
     ·
      refine op2 (a := 1) rfl fun e w ρ (hM : Mem _ w) E => ?_
      have e5 : ρ (.tmp 5) = .slice (some ⟨(e 0).1, 0, none⟩) 0 0 := E.d 0 _ 5 rfl rfl rfl
      have e6 : ρ (.tmp 6) = .slice (some ad) xs.length c := E.d 1 _ 6 rfl rfl rfl
      obtain ⟨v', w', hr, hm⟩ := Mem.append (P := Try.prog) hM 0 rfl 25 8 (.agg #[.int .u8 0, .int .u16 0, .int .u32 0]) Try.underlying25 (by kernel_rfl) rfl (by decide) ad xs.length c (cellsL legE xs) (hR w hM.tail) (cellsL_len (show ∀ x, (legE x).length = 3 from fun _ => rfl) xs) (cellsL_one legE_one xs) (by unfold maxLen; omega) (by omega)
      rw [Nat.zero_add, List.nil_append] at hm
      exact res_ok (x_append rfl rfl rfl rfl (e5) (e6) hr) (goes_tick rfl (0, v') rfl hm)
     · exact op2 (a := 2) rfl fun e w ρ (hM : Mem _ w) E => res_ok (x_assign rfl (E.d 2 _ 7 rfl rfl rfl)) (goes_still rfl rfl hM)
    ·
     intro e a3 w3 hz3 hd hG hO hM
     have hd3 := hd.trans hd2
     have g2_3 : a3.tmps[2]? = some ((e 1).2) := hG 3 _ 2 rfl rfl
     have hM3 : Mem (rowC 36 3 (e 1).2 xs.length (cellsL legE xs) :: R) w3 := hM
     clear hM hG hO hd
     clear hz2 hd2 hM2 g0_2 g2_2 g4_2
     generalize (e 1).2 = v3_1 at *
     refine then_n ?_
     refine wp_ret ?_
     refine ret_1 Try.results25 hd3 g2_3 ?_
     exact ⟨_, rfl, hM3⟩
   ·
    refine cond_t (g4_2.trans (by rw [hc1])) ?_
    have hxn := none_nil (show ∀ x, (legE x).length = 3 from fun _ => rfl) (by decide) hR hM2 hc1
    refine wp_seq ?_
    refine region_seq 8 (fun zz e => (#[.slice none 0 0] : Array Value).getD zz undef) (fun k e w => Mem (List.getD [R] k []) w) (fun _ => (0, undef)) [] [0] (fun _ _ => false) hz2 (by kernel_rfl) (by kernel_rfl) (by kernel_rfl) ?_ (show Mem _ _ from hM2) ?_ ?_
    · exact ⟨fun _ _ _ => rfl, trivial⟩
    ·
     refine ⟨?_, trivial⟩
     · exact op2 (a := 0) rfl fun e w ρ (hM : Mem _ w) E => res_ok (x_assign rfl (E.c _)) (goes_still rfl rfl hM)
    ·
     intro e a4 w4 hz4 hd hG hO hM
     have hd4 := hd.trans hd2
     have g0_4 := (hO 0 rfl).trans g0_2
     have g2_4 : a4.tmps[2]? = some (.slice none 0 0) := hG 0 _ 2 rfl rfl
     have hM4 : Mem (R) w4 := hM
     clear hM hG hO hd
     clear hz2 hd2 hM2 g0_2 g2_2 g4_2
     refine then_n ?_
     refine wp_ret ?_
     refine then_r ?_
     refine ret_1 Try.results25 hd4 g2_4 ?_
     exact ⟨_, rfl, by subst hxn; exact hM4.noRow _ _⟩
set_option maxRecDepth 100000 in
set_option maxHeartbeats 8000000 in
theorem clone_Tax (a : Option Addr) (c : Nat) (xs : List TaxV) (R : List Chunk) (w : World) (hM : Mem R w) (hR : Reads R a (cellsL taxE xs)) (hx : xs.length ≤ 1000000) :
  Calls Try.prog 26 #[.slice a xs.length c] w fun e w' => ∃ v, e = .returned v ∧ Mem (rowC 58 2 v xs.length (cellsL taxE xs) :: R) w' := by
 refine enter Try.func26 rfl Try.ntmps26 (Nat.le_of_ble_eq_true rfl) ?_
 intro a0 hz0 hd0 hg0
 have g0_0 : a0.tmps[0]? = some (.slice a xs.length c) := hg0 0 _ rfl
 clear hg0
 have hM0 : Mem (R) _ := hM
 refine wp_seq ?_
 refine region_seq 8 (fun zz e => (#[.slice none 0 0] : Array Value).getD zz undef) (fun k e w => Mem (List.getD [R] k []) w) (fun _ => (0, undef)) [] [0] (fun _ _ => false) hz0 (by kernel_rfl) (by kernel_rfl) (by kernel_rfl) ?_ (show Mem _ _ from hM0) ?_ ?_
 · exact ⟨fun _ _ _ => rfl, trivial⟩
 ·
  refine ⟨?_, trivial⟩
  · exact op2 (a := 0) rfl fun e w ρ (hM : Mem _ w) E => res_ok (x_assign rfl (E.c _)) (goes_still rfl rfl hM)
 ·
  intro e a1 w1 hz1 hd hG hO hM
  have hd1 := hd.trans hd0
  have g0_1 := (hO 0 rfl).trans g0_0
  have g2_1 : a1.tmps[2]? = some (.slice none 0 0) := hG 0 _ 2 rfl rfl
  have hM1 : Mem (R) w1 := hM
  clear hM hG hO hd
  clear hz0 hd0 hM0 g0_0
  refine then_n ?_
  refine wp_seq ?_
  refine wp_seq ?_
  refine region_seq 8 (fun zz e => (#[.slice a xs.length c, .bool a.isNone] : Array Value).getD zz undef) (fun k e w => Mem (List.getD [R] k []) w) (fun _ => (0, undef)) [] [0, 0] (fun _ _ => false) hz1 (by kernel_rfl) (by kernel_rfl) (by kernel_rfl) ?_ (show Mem _ _ from hM1) ?_ ?_
  · exact ⟨fun _ _ _ => rfl, fun _ _ _ => rfl, trivial⟩
  ·
   refine ⟨?_, ?_, trivial⟩
   · exact op2 (a := 0) rfl fun e w ρ (hM : Mem _ w) E => res_ok (x_move rfl (E.o 0 _ rfl g0_1)) (goes_still rfl rfl hM)
   · exact op2 (a := 0) rfl fun e w ρ (hM : Mem _ w) E => res_ok (x_eqNil Try.underlying26 rfl (E.d 0 _ 3 rfl rfl rfl) (E.c _) rfl) (goes_still rfl rfl hM)
  ·
   intro e a2 w2 hz2 hd hG hO hM
   have hd2 := hd.trans hd1
   have g0_2 := (hO 0 rfl).trans g0_1
   have g2_2 := (hO 2 rfl).trans g2_1
   have g4_2 : a2.tmps[4]? = some (.bool a.isNone) := hG 1 _ 4 rfl rfl
   have hM2 : Mem (R) w2 := hM
   clear hM hG hO hd
   clear hz1 hd1 hM1 g0_1 g2_1
   refine then_n ?_
   cases hc1 : a.isNone
   ·
    refine cond_f (g4_2.trans (by rw [hc1])) ?_
    obtain ⟨ad, rfl⟩ : ∃ ad, a = some ad := by
          cases a with
          | none => cases hc1
          | some ad => exact ⟨ad, rfl⟩
    refine wp_skip ?_
    refine then_n ?_
    refine wp_seq ?_
    refine region_seq 8 (fun zz e => (#[.slice (some ⟨(e 0).1, 0, none⟩) 0 0, .slice (some ad) xs.length c, (e 1).2, (e 1).2] : Array Value).getD zz undef) (fun k e w => Mem (List.getD [R, rowC 58 2 (.slice (some ⟨(e 0).1, 0, none⟩) 0 0) 0 [] :: R, rowC 58 2 (e 1).2 xs.length (cellsL taxE xs) :: R] k []) w) (fun _ => (0, undef)) [0, 2] [0, 1, 1, 2] (fun _ _ => false) hz2 (by kernel_rfl) (by kernel_rfl) (by kernel_rfl) ?_ (show Mem _ _ from hM2) ?_ ?_
    · exact ⟨fun e e' h => congrArg (fun x : Rv => (.slice (some ⟨x.1, 0, none⟩) 0 0 : Value)) (h 0 (by decide)), fun _ _ _ => rfl, fun e e' h => congrArg (fun x : Rv => (x.2 : Value)) (h 1 (by decide)), fun e e' h => congrArg (fun x : Rv => (x.2 : Value)) (h 1 (by decide)), trivial⟩
    ·
     refine ⟨?_, ?_, ?_, ?_, trivial⟩
     ·
      refine op2 (a := 0) rfl fun e w ρ (hM : Mem _ w) E => ?_
      exact res_ok (v := .slice (some ⟨w.heap.size, 0, none⟩) 0 0) (w' := w.alloc (.cells #[] 58)) (by simp [go_sem, execOp, Instr.buildSlice, Instr.fill, newRow]) (goes_tick rfl (w.heap.size, undef) rfl (emptyRow hM 58 2))
     · exact op2 (a := 1) rfl fun e w ρ (hM : Mem _ w) E => res_ok (x_move rfl (E.o 0 _ rfl g0_2)) (goes_still rfl rfl hM)
     ·
      refine op2 (a := 1) rfl fun e w ρ (hM : Mem _ w) E => ?_
      have e5 : ρ (.tmp 5) = .slice (some ⟨(e 0).1, 0, none⟩) 0 0 := E.d 0 _ 5 rfl rfl rfl
      have e6 : ρ (.tmp 6) = .slice (some ad) xs.length c := E.d 1 _ 6 rfl rfl rfl
      obtain ⟨v', w', hr, hm⟩ := Mem.append (P := Try.prog) hM 0 rfl 26 24 (.agg #[.string ByteArray.empty, .int .i64 0]) Try.underlying26 (by kernel_rfl) rfl (by decide) ad xs.length c (cellsL taxE xs) (hR w hM.tail) (cellsL_len (show ∀ x, (taxE x).length = 2 from fun _ => rfl) xs) (cellsL_one taxE_one xs) (by unfold maxLen; omega) (by omega)
      rw [Nat.zero_add, List.nil_append] at hm
      exact res_ok (x_append rfl rfl rfl rfl (e5) (e6) hr) (goes_tick rfl (0, v') rfl hm)
     · exact op2 (a := 2) rfl fun e w ρ (hM : Mem _ w) E => res_ok (x_assign rfl (E.d 2 _ 7 rfl rfl rfl)) (goes_still rfl rfl hM)
    ·
     intro e a3 w3 hz3 hd hG hO hM
     have hd3 := hd.trans hd2
     have g2_3 : a3.tmps[2]? = some ((e 1).2) := hG 3 _ 2 rfl rfl
     have hM3 : Mem (rowC 58 2 (e 1).2 xs.length (cellsL taxE xs) :: R) w3 := hM
     clear hM hG hO hd
     clear hz2 hd2 hM2 g0_2 g2_2 g4_2
     generalize (e 1).2 = v3_1 at *
     refine then_n ?_
     refine wp_ret ?_
     refine ret_1 Try.results26 hd3 g2_3 ?_
     exact ⟨_, rfl, hM3⟩
   ·
    refine cond_t (g4_2.trans (by rw [hc1])) ?_
    have hxn := none_nil (show ∀ x, (taxE x).length = 2 from fun _ => rfl) (by decide) hR hM2 hc1
    refine wp_seq ?_
    refine region_seq 8 (fun zz e => (#[.slice none 0 0] : Array Value).getD zz undef) (fun k e w => Mem (List.getD [R] k []) w) (fun _ => (0, undef)) [] [0] (fun _ _ => false) hz2 (by kernel_rfl) (by kernel_rfl) (by kernel_rfl) ?_ (show Mem _ _ from hM2) ?_ ?_
    · exact ⟨fun _ _ _ => rfl, trivial⟩
    ·
     refine ⟨?_, trivial⟩
     · exact op2 (a := 0) rfl fun e w ρ (hM : Mem _ w) E => res_ok (x_assign rfl (E.c _)) (goes_still rfl rfl hM)
    ·
     intro e a4 w4 hz4 hd hG hO hM
     have hd4 := hd.trans hd2
     have g0_4 := (hO 0 rfl).trans g0_2
     have g2_4 : a4.tmps[2]? = some (.slice none 0 0) := hG 0 _ 2 rfl rfl
     have hM4 : Mem (R) w4 := hM
     clear hM hG hO hd
     clear hz2 hd2 hM2 g0_2 g2_2 g4_2
     refine then_n ?_
     refine wp_ret ?_
     refine then_r ?_
     refine ret_1 Try.results26 hd4 g2_4 ?_
     exact ⟨_, rfl, by subst hxn; exact hM4.noRow _ _⟩
end Go.Proofs.Ytfcjmpgbohgoeaa
