/- CODEC: the document's Same. -/
import Derived.Test.YtfcjmpgbohgoeaaCo14
namespace Go.Proofs.Ytfcjmpgbohgoeaa
open Go.RowKit Go.Lib Go.Tk Go.Shelf Go.Vc
set_option linter.unusedVariables false
set_option linter.unusedSimpArgs false
attribute [-go_sem] loadCellsFrom
def sameR (a b : RecV) : Bool := decide (a.kind = b.kind) && decide (a.frm = b.frm) && decide (a.number = b.number) && msgB a.msg b.msg && decide (a.cmd.kind = b.cmd.kind) && tickB a.cmd.tick b.cmd.tick && decide (a.cmd.at_ = b.cmd.at_) && decide (a.cmd.amount = b.cmd.amount) && decide (a.cmd.name = b.cmd.name) && decide (a.cmd.fare = b.cmd.fare) && decide (a.cmd.penalty = b.cmd.penalty)
def sameW (a b : RecV) : Bool := listB legB a.cmd.legs b.cmd.legs && (listB taxB a.cmd.taxes b.cmd.taxes && sameR a b)
theorem sameW_iff (a b : RecV) : sameW a b = true ↔ a = b := by
 rw [← sameV_iff]
 unfold sameW sameR sameV
 simp only [Bool.and_eq_true, decide_eq_true_eq]
 constructor
 · rintro ⟨h10, h12, ⟨⟨⟨⟨⟨⟨⟨⟨⟨h1, h2⟩, h3⟩, h4⟩, h5⟩, h6⟩, h7⟩, h8⟩, h9⟩, h11⟩, h13⟩; exact ⟨⟨⟨⟨⟨⟨⟨⟨⟨⟨⟨⟨h1, h2⟩, h3⟩, h4⟩, h5⟩, h6⟩, h7⟩, h8⟩, h9⟩, h10⟩, h11⟩, h12⟩, h13⟩
 · rintro ⟨⟨⟨⟨⟨⟨⟨⟨⟨⟨⟨⟨h1, h2⟩, h3⟩, h4⟩, h5⟩, h6⟩, h7⟩, h8⟩, h9⟩, h10⟩, h11⟩, h12⟩, h13⟩; exact ⟨h10, h12, ⟨⟨⟨⟨⟨⟨⟨⟨⟨⟨h1, h2⟩, h3⟩, h4⟩, h5⟩, h6⟩, h7⟩, h8⟩, h9⟩, h11⟩, h13⟩⟩
set_option maxRecDepth 100000 in
set_option maxHeartbeats 8000000 in
theorem rsame_at (a b : RecV) (al1 at1 al2 at2 : Option Addr) (cl1 ct1 cl2 ct2 : Nat) (R : List Chunk) (w : World) (hM : Mem R w) (hl1 : Reads R al1 (cellsL legE a.cmd.legs)) (ht1 : Reads R at1 (cellsL taxE a.cmd.taxes)) (hn1 : a.cmd.legs.length ≤ 1000000 ∧ a.cmd.taxes.length ≤ 1000000) (hl2 : Reads R al2 (cellsL legE b.cmd.legs)) (ht2 : Reads R at2 (cellsL taxE b.cmd.taxes)) (hn2 : b.cmd.legs.length ≤ 1000000 ∧ b.cmd.taxes.length ≤ 1000000) :
  Calls Try.prog 14 #[.agg (recCells a (.slice al1 a.cmd.legs.length cl1) (.slice at1 a.cmd.taxes.length ct1)), .agg (recCells b (.slice al2 b.cmd.legs.length cl2) (.slice at2 b.cmd.taxes.length ct2))] w fun e w' => e = .returned (.bool (sameW a b)) ∧ Mem R w' := by
 refine enter Try.func14 rfl Try.ntmps14 (Nat.le_of_ble_eq_true rfl) ?_
 intro a0 hz0 hd0 hg0
 have g0_0 : a0.tmps[0]? = some (.agg (recCells a (.slice al1 a.cmd.legs.length cl1) (.slice at1 a.cmd.taxes.length ct1))) := hg0 0 _ rfl
 have g1_0 : a0.tmps[1]? = some (.agg (recCells b (.slice al2 b.cmd.legs.length cl2) (.slice at2 b.cmd.taxes.length ct2))) := hg0 1 _ rfl
 clear hg0
 have hM0 : Mem (R) _ := hM
 refine wp_seq ?_
 refine region_seq 150 (fun zz e => (#[.pointer (some ⟨(e 0).1, 0, none⟩), .pointer (some ⟨(e 1).1, 0, none⟩), .bool false] : Array Value).getD zz undef) (fun k e w => Mem (List.getD [R, boxC ((e 0).1) (recCells a (.slice al1 a.cmd.legs.length cl1) (.slice at1 a.cmd.taxes.length ct1)) :: R, boxC ((e 1).1) (recCells b (.slice al2 b.cmd.legs.length cl2) (.slice at2 b.cmd.taxes.length ct2)) :: boxC ((e 0).1) (recCells a (.slice al1 a.cmd.legs.length cl1) (.slice at1 a.cmd.taxes.length ct1)) :: R] k []) w) (fun _ => (0, undef)) [0, 1] [0, 1, 2] (fun _ _ => false) hz0 (by kernel_rfl) (by kernel_rfl) (by kernel_rfl) ?_ (show Mem _ _ from hM0) ?_ ?_
 · exact ⟨fun e e' h => congrArg (fun x : Rv => (.pointer (some ⟨x.1, 0, none⟩) : Value)) (h 0 (by decide)), fun e e' h => congrArg (fun x : Rv => (.pointer (some ⟨x.1, 0, none⟩) : Value)) (h 1 (by decide)), fun _ _ _ => rfl, trivial⟩
 ·
  refine ⟨?_, ?_, ?_, trivial⟩
  ·
   refine op2 (a := 0) rfl fun e w ρ (hM : Mem _ w) E => ?_
   have e0 : ρ (.tmp 0) = .agg (recCells a (.slice al1 a.cmd.legs.length cl1) (.slice at1 a.cmd.taxes.length ct1)) := E.o 0 _ rfl g0_0
   exact res_ok (x_box rfl (e0)) (goes_tick rfl (w.heap.size, undef) rfl (hM.alloc _ _))
  ·
   refine op2 (a := 1) rfl fun e w ρ (hM : Mem _ w) E => ?_
   have e1 : ρ (.tmp 1) = .agg (recCells b (.slice al2 b.cmd.legs.length cl2) (.slice at2 b.cmd.taxes.length ct2)) := E.o 1 _ rfl g1_0
   exact res_ok (x_box rfl (e1)) (goes_tick rfl (w.heap.size, undef) rfl (hM.alloc _ _))
  · exact op2 (a := 2) rfl fun e w ρ (hM : Mem _ w) E => res_ok (x_assign rfl (E.c _)) (goes_still rfl rfl hM)
 ·
  intro e a1 w1 hz1 hd hG hO hM
  have hd1 := hd.trans hd0
  have g2_1 : a1.tmps[2]? = some (.pointer (some ⟨(e 0).1, 0, none⟩)) := hG 0 _ 2 rfl rfl
  have g3_1 : a1.tmps[3]? = some (.pointer (some ⟨(e 1).1, 0, none⟩)) := hG 1 _ 3 rfl rfl
  have g4_1 : a1.tmps[4]? = some (.bool false) := hG 2 _ 4 rfl rfl
  have hM1 : Mem (boxC ((e 1).1) (recCells b (.slice al2 b.cmd.legs.length cl2) (.slice at2 b.cmd.taxes.length ct2)) :: boxC ((e 0).1) (recCells a (.slice al1 a.cmd.legs.length cl1) (.slice at1 a.cmd.taxes.length ct1)) :: R) w1 := hM
  clear hM hG hO hd
  clear hz0 hd0 hM0 g0_0 g1_0
  generalize (e 0).1 = b1_0 at *
  generalize (e 1).1 = b1_1 at *
  refine then_n ?_
  refine wp_seq ?_
  refine region_mask 150 (fun zz e => (#[.pointer (some ⟨b1_0, 1, none⟩), .pointer (some ⟨b1_0, 5, none⟩), .agg #[.string a.cmd.name, .slice al1 a.cmd.legs.length cl1, .int .i64 a.cmd.fare, .slice at1 a.cmd.taxes.length ct1, .int .i64 a.cmd.penalty], .pointer (some ⟨b1_1, 1, none⟩), .pointer (some ⟨b1_1, 5, none⟩), .agg #[.string b.cmd.name, .slice al2 b.cmd.legs.length cl2, .int .i64 b.cmd.fare, .slice at2 b.cmd.taxes.length ct2, .int .i64 b.cmd.penalty], .pointer (some ⟨(e 6).1, 0, none⟩), .pointer (some ⟨(e 7).1, 0, none⟩), undef, undef] : Array Value).getD zz undef) (fun L e w => Mem (List.getD [boxC b1_1 (recCells b (.slice al2 b.cmd.legs.length cl2) (.slice at2 b.cmd.taxes.length ct2)) :: boxC b1_0 (recCells a (.slice al1 a.cmd.legs.length cl1) (.slice at1 a.cmd.taxes.length ct1)) :: R, boxC ((e 6).1) #[.string ByteArray.empty, .slice none 0 0, .int .i64 0, .slice none 0 0, .int .i64 0] :: boxC b1_1 (recCells b (.slice al2 b.cmd.legs.length cl2) (.slice at2 b.cmd.taxes.length ct2)) :: boxC b1_0 (recCells a (.slice al1 a.cmd.legs.length cl1) (.slice at1 a.cmd.taxes.length ct1)) :: R, boxC ((e 7).1) #[.string ByteArray.empty, .slice none 0 0, .int .i64 0, .slice none 0 0, .int .i64 0] :: boxC b1_1 (recCells b (.slice al2 b.cmd.legs.length cl2) (.slice at2 b.cmd.taxes.length ct2)) :: boxC b1_0 (recCells a (.slice al1 a.cmd.legs.length cl1) (.slice at1 a.cmd.taxes.length ct1)) :: R, boxC ((e 7).1) #[.string ByteArray.empty, .slice none 0 0, .int .i64 0, .slice none 0 0, .int .i64 0] :: boxC ((e 6).1) #[.string ByteArray.empty, .slice none 0 0, .int .i64 0, .slice none 0 0, .int .i64 0] :: boxC b1_1 (recCells b (.slice al2 b.cmd.legs.length cl2) (.slice at2 b.cmd.taxes.length ct2)) :: boxC b1_0 (recCells a (.slice al1 a.cmd.legs.length cl1) (.slice at1 a.cmd.taxes.length ct1)) :: R, [], [], [], boxC ((e 7).1) #[.string ByteArray.empty, .slice none 0 0, .int .i64 0, .slice none 0 0, .int .i64 0] :: boxC ((e 6).1) #[.string a.cmd.name, .slice al1 a.cmd.legs.length cl1, .int .i64 a.cmd.fare, .slice at1 a.cmd.taxes.length ct1, .int .i64 a.cmd.penalty] :: boxC b1_1 (recCells b (.slice al2 b.cmd.legs.length cl2) (.slice at2 b.cmd.taxes.length ct2)) :: boxC b1_0 (recCells a (.slice al1 a.cmd.legs.length cl1) (.slice at1 a.cmd.taxes.length ct1)) :: R, [], [], [], [], [], [], [], boxC ((e 7).1) #[.string b.cmd.name, .slice al2 b.cmd.legs.length cl2, .int .i64 b.cmd.fare, .slice at2 b.cmd.taxes.length ct2, .int .i64 b.cmd.penalty] :: boxC ((e 6).1) #[.string a.cmd.name, .slice al1 a.cmd.legs.length cl1, .int .i64 a.cmd.fare, .slice at1 a.cmd.taxes.length ct1, .int .i64 a.cmd.penalty] :: boxC b1_1 (recCells b (.slice al2 b.cmd.legs.length cl2) (.slice at2 b.cmd.taxes.length ct2)) :: boxC b1_0 (recCells a (.slice al1 a.cmd.legs.length cl1) (.slice at1 a.cmd.taxes.length ct1)) :: R] (maskN [6, 7, 8, 9] L) []) w) (fun _ => (0, undef)) [[], [0], [0, 1], [], [3], [3, 4], [], [], [0, 1, 2, 6, 7], [0, 1, 2, 3, 4, 5, 6, 7, 8]] [0, 0, 0, 0, 0, 0, 0, 0, 0, 0] [0, 0, 0, 0, 0, 0, 0, 0, 0, 0] (fun _ _ => false) hz1 (by kernel_rfl) (by kernel_rfl) (by kernel_rfl) (by kernel_rfl) (by kernel_rfl) ?_ (show Mem _ _ from hM1.drew) ?_ ?_
  · exact ⟨fun _ _ _ => rfl, fun _ _ _ => rfl, fun _ _ _ => rfl, fun _ _ _ => rfl, fun _ _ _ => rfl, fun _ _ _ => rfl, fun e e' h => congrArg (fun x : Rv => (.pointer (some ⟨x.1, 0, none⟩) : Value)) (h 6 (.inl rfl)), fun e e' h => congrArg (fun x : Rv => (.pointer (some ⟨x.1, 0, none⟩) : Value)) (h 7 (.inl rfl)), fun _ _ _ => rfl, fun _ _ _ => rfl, trivial⟩
  ·
   refine ⟨?_, ?_, ?_, ?_, ?_, ?_, ?_, ?_, ?_, ?_, trivial⟩
   ·
    intro L e w ρ hL0 hL1 hL2 hL3 hO E
    have l8 : L 8 = false := hL2 8 (Nat.le_of_ble_eq_true rfl) (by decide)
    have l9 : L 9 = false := hL2 9 (Nat.le_of_ble_eq_true rfl) (by decide)
    cases l6 : L 6
    ·
     cases l7 : L 7
     ·
      replace hO : Mem (List.getD _ (maskN [6, 7, 8, 9] L) []) w := hO
      rw [show maskN [6, 7, 8, 9] L = 0 from by simp only [maskN, l6, l7, l8, l9] <;> rfl] at hO
      have hM : Mem _ w := hO
      have e2 : ρ (.tmp 2) = .pointer (some ⟨b1_0, 0, none⟩) := E.o 2 _ rfl g2_1
      refine (if_pos rfl).mpr ?_
      have hmk : maskN [6, 7, 8, 9] (setL L 0) = 0 := by simp only [maskN, setL, l6, l7, l8, l9] <;> rfl
      exact res_ok (x_fieldAddr (off := 1) rfl (e2) (by kernel_rfl) rfl) ⟨(0, undef), rfl, (by show Mem (List.getD _ (maskN [6, 7, 8, 9] (setL L 0)) []) _; rw [hmk]; exact hM)⟩
     ·
      replace hO : Mem (List.getD _ (maskN [6, 7, 8, 9] L) []) w := hO
      rw [show maskN [6, 7, 8, 9] L = 2 from by simp only [maskN, l6, l7, l8, l9] <;> rfl] at hO
      have hM : Mem _ w := hO
      have e2 : ρ (.tmp 2) = .pointer (some ⟨b1_0, 0, none⟩) := E.o 2 _ rfl g2_1
      refine (if_pos rfl).mpr ?_
      have hmk : maskN [6, 7, 8, 9] (setL L 0) = 2 := by simp only [maskN, setL, l6, l7, l8, l9] <;> rfl
      exact res_ok (x_fieldAddr (off := 1) rfl (e2) (by kernel_rfl) rfl) ⟨(0, undef), rfl, (by show Mem (List.getD _ (maskN [6, 7, 8, 9] (setL L 0)) []) _; rw [hmk]; exact hM)⟩
    ·
     cases l7 : L 7
     ·
      replace hO : Mem (List.getD _ (maskN [6, 7, 8, 9] L) []) w := hO
      rw [show maskN [6, 7, 8, 9] L = 1 from by simp only [maskN, l6, l7, l8, l9] <;> rfl] at hO
      have hM : Mem _ w := hO
      have e2 : ρ (.tmp 2) = .pointer (some ⟨b1_0, 0, none⟩) := E.o 2 _ rfl g2_1
      refine (if_pos rfl).mpr ?_
      have hmk : maskN [6, 7, 8, 9] (setL L 0) = 1 := by simp only [maskN, setL, l6, l7, l8, l9] <;> rfl
      exact res_ok (x_fieldAddr (off := 1) rfl (e2) (by kernel_rfl) rfl) ⟨(0, undef), rfl, (by show Mem (List.getD _ (maskN [6, 7, 8, 9] (setL L 0)) []) _; rw [hmk]; exact hM)⟩
     ·
      replace hO : Mem (List.getD _ (maskN [6, 7, 8, 9] L) []) w := hO
      rw [show maskN [6, 7, 8, 9] L = 3 from by simp only [maskN, l6, l7, l8, l9] <;> rfl] at hO
      have hM : Mem _ w := hO
      have e2 : ρ (.tmp 2) = .pointer (some ⟨b1_0, 0, none⟩) := E.o 2 _ rfl g2_1
      refine (if_pos rfl).mpr ?_
      have hmk : maskN [6, 7, 8, 9] (setL L 0) = 3 := by simp only [maskN, setL, l6, l7, l8, l9] <;> rfl
      exact res_ok (x_fieldAddr (off := 1) rfl (e2) (by kernel_rfl) rfl) ⟨(0, undef), rfl, (by show Mem (List.getD _ (maskN [6, 7, 8, 9] (setL L 0)) []) _; rw [hmk]; exact hM)⟩
   ·
    intro L e w ρ hL0 hL1 hL2 hL3 hO E
    have l8 : L 8 = false := hL2 8 (Nat.le_of_ble_eq_true rfl) (by decide)
    have l9 : L 9 = false := hL2 9 (Nat.le_of_ble_eq_true rfl) (by decide)
    cases l6 : L 6
    ·
     cases l7 : L 7
     ·
      replace hO : Mem (List.getD _ (maskN [6, 7, 8, 9] L) []) w := hO
      rw [show maskN [6, 7, 8, 9] L = 0 from by simp only [maskN, l6, l7, l8, l9] <;> rfl] at hO
      have hM : Mem _ w := hO
      have e9 : ρ (.tmp 9) = .pointer (some ⟨b1_0, 1, none⟩) := E.d 0 _ 9 rfl rfl rfl
      refine (if_pos rfl).mpr ?_
      have hmk : maskN [6, 7, 8, 9] (setL L 1) = 0 := by simp only [maskN, setL, l6, l7, l8, l9] <;> rfl
      exact res_ok (x_fieldAddr (off := 4) rfl (e9) (by kernel_rfl) rfl) ⟨(0, undef), rfl, (by show Mem (List.getD _ (maskN [6, 7, 8, 9] (setL L 1)) []) _; rw [hmk]; exact hM)⟩
     ·
      replace hO : Mem (List.getD _ (maskN [6, 7, 8, 9] L) []) w := hO
      rw [show maskN [6, 7, 8, 9] L = 2 from by simp only [maskN, l6, l7, l8, l9] <;> rfl] at hO
      have hM : Mem _ w := hO
      have e9 : ρ (.tmp 9) = .pointer (some ⟨b1_0, 1, none⟩) := E.d 0 _ 9 rfl rfl rfl
      refine (if_pos rfl).mpr ?_
      have hmk : maskN [6, 7, 8, 9] (setL L 1) = 2 := by simp only [maskN, setL, l6, l7, l8, l9] <;> rfl
      exact res_ok (x_fieldAddr (off := 4) rfl (e9) (by kernel_rfl) rfl) ⟨(0, undef), rfl, (by show Mem (List.getD _ (maskN [6, 7, 8, 9] (setL L 1)) []) _; rw [hmk]; exact hM)⟩
    ·
     cases l7 : L 7
     ·
      replace hO : Mem (List.getD _ (maskN [6, 7, 8, 9] L) []) w := hO
      rw [show maskN [6, 7, 8, 9] L = 1 from by simp only [maskN, l6, l7, l8, l9] <;> rfl] at hO
      have hM : Mem _ w := hO
      have e9 : ρ (.tmp 9) = .pointer (some ⟨b1_0, 1, none⟩) := E.d 0 _ 9 rfl rfl rfl
      refine (if_pos rfl).mpr ?_
      have hmk : maskN [6, 7, 8, 9] (setL L 1) = 1 := by simp only [maskN, setL, l6, l7, l8, l9] <;> rfl
      exact res_ok (x_fieldAddr (off := 4) rfl (e9) (by kernel_rfl) rfl) ⟨(0, undef), rfl, (by show Mem (List.getD _ (maskN [6, 7, 8, 9] (setL L 1)) []) _; rw [hmk]; exact hM)⟩
     ·
      replace hO : Mem (List.getD _ (maskN [6, 7, 8, 9] L) []) w := hO
      rw [show maskN [6, 7, 8, 9] L = 3 from by simp only [maskN, l6, l7, l8, l9] <;> rfl] at hO
      have hM : Mem _ w := hO
      have e9 : ρ (.tmp 9) = .pointer (some ⟨b1_0, 1, none⟩) := E.d 0 _ 9 rfl rfl rfl
      refine (if_pos rfl).mpr ?_
      have hmk : maskN [6, 7, 8, 9] (setL L 1) = 3 := by simp only [maskN, setL, l6, l7, l8, l9] <;> rfl
      exact res_ok (x_fieldAddr (off := 4) rfl (e9) (by kernel_rfl) rfl) ⟨(0, undef), rfl, (by show Mem (List.getD _ (maskN [6, 7, 8, 9] (setL L 1)) []) _; rw [hmk]; exact hM)⟩
   ·
    intro L e w ρ hL0 hL1 hL2 hL3 hO E
    have l8 : L 8 = false := hL2 8 (Nat.le_of_ble_eq_true rfl) (by decide)
    have l9 : L 9 = false := hL2 9 (Nat.le_of_ble_eq_true rfl) (by decide)
    cases l6 : L 6
    ·
     cases l7 : L 7
     ·
      replace hO : Mem (List.getD _ (maskN [6, 7, 8, 9] L) []) w := hO
      rw [show maskN [6, 7, 8, 9] L = 0 from by simp only [maskN, l6, l7, l8, l9] <;> rfl] at hO
      have hM : Mem _ w := hO
      have e10 : ρ (.tmp 10) = .pointer (some ⟨b1_0, 5, none⟩) := E.d 1 _ 10 rfl rfl rfl
      refine (if_pos rfl).mpr ?_
      have hmk : maskN [6, 7, 8, 9] (setL L 2) = 0 := by simp only [maskN, setL, l6, l7, l8, l9] <;> rfl
      exact res_ok (x_loads rfl (e10) (by kernel_rfl) (load_part (hM.box 1 rfl) [.string a.cmd.name, .slice al1 a.cmd.legs.length cl1, .int .i64 a.cmd.fare, .slice at1 a.cmd.taxes.length ct1, .int .i64 a.cmd.penalty] rfl (Nat.le_of_ble_eq_true rfl) rfl)) ⟨(0, undef), rfl, (by show Mem (List.getD _ (maskN [6, 7, 8, 9] (setL L 2)) []) _; rw [hmk]; exact hM)⟩
     ·
      replace hO : Mem (List.getD _ (maskN [6, 7, 8, 9] L) []) w := hO
      rw [show maskN [6, 7, 8, 9] L = 2 from by simp only [maskN, l6, l7, l8, l9] <;> rfl] at hO
      have hM : Mem _ w := hO
      have e10 : ρ (.tmp 10) = .pointer (some ⟨b1_0, 5, none⟩) := E.d 1 _ 10 rfl rfl rfl
      refine (if_pos rfl).mpr ?_
      have hmk : maskN [6, 7, 8, 9] (setL L 2) = 2 := by simp only [maskN, setL, l6, l7, l8, l9] <;> rfl
      exact res_ok (x_loads rfl (e10) (by kernel_rfl) (load_part (hM.box 2 rfl) [.string a.cmd.name, .slice al1 a.cmd.legs.length cl1, .int .i64 a.cmd.fare, .slice at1 a.cmd.taxes.length ct1, .int .i64 a.cmd.penalty] rfl (Nat.le_of_ble_eq_true rfl) rfl)) ⟨(0, undef), rfl, (by show Mem (List.getD _ (maskN [6, 7, 8, 9] (setL L 2)) []) _; rw [hmk]; exact hM)⟩
    ·
     cases l7 : L 7
     ·
      replace hO : Mem (List.getD _ (maskN [6, 7, 8, 9] L) []) w := hO
      rw [show maskN [6, 7, 8, 9] L = 1 from by simp only [maskN, l6, l7, l8, l9] <;> rfl] at hO
      have hM : Mem _ w := hO
      have e10 : ρ (.tmp 10) = .pointer (some ⟨b1_0, 5, none⟩) := E.d 1 _ 10 rfl rfl rfl
      refine (if_pos rfl).mpr ?_
      have hmk : maskN [6, 7, 8, 9] (setL L 2) = 1 := by simp only [maskN, setL, l6, l7, l8, l9] <;> rfl
      exact res_ok (x_loads rfl (e10) (by kernel_rfl) (load_part (hM.box 2 rfl) [.string a.cmd.name, .slice al1 a.cmd.legs.length cl1, .int .i64 a.cmd.fare, .slice at1 a.cmd.taxes.length ct1, .int .i64 a.cmd.penalty] rfl (Nat.le_of_ble_eq_true rfl) rfl)) ⟨(0, undef), rfl, (by show Mem (List.getD _ (maskN [6, 7, 8, 9] (setL L 2)) []) _; rw [hmk]; exact hM)⟩
     ·
      replace hO : Mem (List.getD _ (maskN [6, 7, 8, 9] L) []) w := hO
      rw [show maskN [6, 7, 8, 9] L = 3 from by simp only [maskN, l6, l7, l8, l9] <;> rfl] at hO
      have hM : Mem _ w := hO
      have e10 : ρ (.tmp 10) = .pointer (some ⟨b1_0, 5, none⟩) := E.d 1 _ 10 rfl rfl rfl
      refine (if_pos rfl).mpr ?_
      have hmk : maskN [6, 7, 8, 9] (setL L 2) = 3 := by simp only [maskN, setL, l6, l7, l8, l9] <;> rfl
      exact res_ok (x_loads rfl (e10) (by kernel_rfl) (load_part (hM.box 3 rfl) [.string a.cmd.name, .slice al1 a.cmd.legs.length cl1, .int .i64 a.cmd.fare, .slice at1 a.cmd.taxes.length ct1, .int .i64 a.cmd.penalty] rfl (Nat.le_of_ble_eq_true rfl) rfl)) ⟨(0, undef), rfl, (by show Mem (List.getD _ (maskN [6, 7, 8, 9] (setL L 2)) []) _; rw [hmk]; exact hM)⟩
   ·
    intro L e w ρ hL0 hL1 hL2 hL3 hO E
    have l9 : L 9 = false := hL2 9 (Nat.le_of_ble_eq_true rfl) (by decide)
    cases l6 : L 6
    ·
     cases l7 : L 7
     ·
      cases l8 : L 8
      ·
       replace hO : Mem (List.getD _ (maskN [6, 7, 8, 9] L) []) w := hO
       rw [show maskN [6, 7, 8, 9] L = 0 from by simp only [maskN, l6, l7, l8, l9] <;> rfl] at hO
       have hM : Mem _ w := hO
       have e3 : ρ (.tmp 3) = .pointer (some ⟨b1_1, 0, none⟩) := E.o 3 _ rfl g3_1
       refine (if_pos rfl).mpr ?_
       have hmk : maskN [6, 7, 8, 9] (setL L 3) = 0 := by simp only [maskN, setL, l6, l7, l8, l9] <;> rfl
       exact res_ok (x_fieldAddr (off := 1) rfl (e3) (by kernel_rfl) rfl) ⟨(0, undef), rfl, (by show Mem (List.getD _ (maskN [6, 7, 8, 9] (setL L 3)) []) _; rw [hmk]; exact hM)⟩
      ·
       exact absurd (hL3 8 (Nat.le_of_ble_eq_true rfl) l8 6 (by decide)) (by rw [l6]; decide)
     ·
      cases l8 : L 8
      ·
       replace hO : Mem (List.getD _ (maskN [6, 7, 8, 9] L) []) w := hO
       rw [show maskN [6, 7, 8, 9] L = 2 from by simp only [maskN, l6, l7, l8, l9] <;> rfl] at hO
       have hM : Mem _ w := hO
       have e3 : ρ (.tmp 3) = .pointer (some ⟨b1_1, 0, none⟩) := E.o 3 _ rfl g3_1
       refine (if_pos rfl).mpr ?_
       have hmk : maskN [6, 7, 8, 9] (setL L 3) = 2 := by simp only [maskN, setL, l6, l7, l8, l9] <;> rfl
       exact res_ok (x_fieldAddr (off := 1) rfl (e3) (by kernel_rfl) rfl) ⟨(0, undef), rfl, (by show Mem (List.getD _ (maskN [6, 7, 8, 9] (setL L 3)) []) _; rw [hmk]; exact hM)⟩
      ·
       exact absurd (hL3 8 (Nat.le_of_ble_eq_true rfl) l8 6 (by decide)) (by rw [l6]; decide)
    ·
     cases l7 : L 7
     ·
      cases l8 : L 8
      ·
       replace hO : Mem (List.getD _ (maskN [6, 7, 8, 9] L) []) w := hO
       rw [show maskN [6, 7, 8, 9] L = 1 from by simp only [maskN, l6, l7, l8, l9] <;> rfl] at hO
       have hM : Mem _ w := hO
       have e3 : ρ (.tmp 3) = .pointer (some ⟨b1_1, 0, none⟩) := E.o 3 _ rfl g3_1
       refine (if_pos rfl).mpr ?_
       have hmk : maskN [6, 7, 8, 9] (setL L 3) = 1 := by simp only [maskN, setL, l6, l7, l8, l9] <;> rfl
       exact res_ok (x_fieldAddr (off := 1) rfl (e3) (by kernel_rfl) rfl) ⟨(0, undef), rfl, (by show Mem (List.getD _ (maskN [6, 7, 8, 9] (setL L 3)) []) _; rw [hmk]; exact hM)⟩
      ·
       exact absurd (hL3 8 (Nat.le_of_ble_eq_true rfl) l8 7 (by decide)) (by rw [l7]; decide)
     ·
      cases l8 : L 8
      ·
       replace hO : Mem (List.getD _ (maskN [6, 7, 8, 9] L) []) w := hO
       rw [show maskN [6, 7, 8, 9] L = 3 from by simp only [maskN, l6, l7, l8, l9] <;> rfl] at hO
       have hM : Mem _ w := hO
       have e3 : ρ (.tmp 3) = .pointer (some ⟨b1_1, 0, none⟩) := E.o 3 _ rfl g3_1
       refine (if_pos rfl).mpr ?_
       have hmk : maskN [6, 7, 8, 9] (setL L 3) = 3 := by simp only [maskN, setL, l6, l7, l8, l9] <;> rfl
       exact res_ok (x_fieldAddr (off := 1) rfl (e3) (by kernel_rfl) rfl) ⟨(0, undef), rfl, (by show Mem (List.getD _ (maskN [6, 7, 8, 9] (setL L 3)) []) _; rw [hmk]; exact hM)⟩
      ·
       replace hO : Mem (List.getD _ (maskN [6, 7, 8, 9] L) []) w := hO
       rw [show maskN [6, 7, 8, 9] L = 7 from by simp only [maskN, l6, l7, l8, l9] <;> rfl] at hO
       have hM : Mem _ w := hO
       have e3 : ρ (.tmp 3) = .pointer (some ⟨b1_1, 0, none⟩) := E.o 3 _ rfl g3_1
       refine (if_pos rfl).mpr ?_
       have hmk : maskN [6, 7, 8, 9] (setL L 3) = 7 := by simp only [maskN, setL, l6, l7, l8, l9] <;> rfl
       exact res_ok (x_fieldAddr (off := 1) rfl (e3) (by kernel_rfl) rfl) ⟨(0, undef), rfl, (by show Mem (List.getD _ (maskN [6, 7, 8, 9] (setL L 3)) []) _; rw [hmk]; exact hM)⟩
   ·
    intro L e w ρ hL0 hL1 hL2 hL3 hO E
    have l9 : L 9 = false := hL2 9 (Nat.le_of_ble_eq_true rfl) (by decide)
    cases l6 : L 6
    ·
     cases l7 : L 7
     ·
      cases l8 : L 8
      ·
       replace hO : Mem (List.getD _ (maskN [6, 7, 8, 9] L) []) w := hO
       rw [show maskN [6, 7, 8, 9] L = 0 from by simp only [maskN, l6, l7, l8, l9] <;> rfl] at hO
       have hM : Mem _ w := hO
       have e12 : ρ (.tmp 12) = .pointer (some ⟨b1_1, 1, none⟩) := E.d 3 _ 12 rfl rfl rfl
       refine (if_pos rfl).mpr ?_
       have hmk : maskN [6, 7, 8, 9] (setL L 4) = 0 := by simp only [maskN, setL, l6, l7, l8, l9] <;> rfl
       exact res_ok (x_fieldAddr (off := 4) rfl (e12) (by kernel_rfl) rfl) ⟨(0, undef), rfl, (by show Mem (List.getD _ (maskN [6, 7, 8, 9] (setL L 4)) []) _; rw [hmk]; exact hM)⟩
      ·
       exact absurd (hL3 8 (Nat.le_of_ble_eq_true rfl) l8 6 (by decide)) (by rw [l6]; decide)
     ·
      cases l8 : L 8
      ·
       replace hO : Mem (List.getD _ (maskN [6, 7, 8, 9] L) []) w := hO
       rw [show maskN [6, 7, 8, 9] L = 2 from by simp only [maskN, l6, l7, l8, l9] <;> rfl] at hO
       have hM : Mem _ w := hO
       have e12 : ρ (.tmp 12) = .pointer (some ⟨b1_1, 1, none⟩) := E.d 3 _ 12 rfl rfl rfl
       refine (if_pos rfl).mpr ?_
       have hmk : maskN [6, 7, 8, 9] (setL L 4) = 2 := by simp only [maskN, setL, l6, l7, l8, l9] <;> rfl
       exact res_ok (x_fieldAddr (off := 4) rfl (e12) (by kernel_rfl) rfl) ⟨(0, undef), rfl, (by show Mem (List.getD _ (maskN [6, 7, 8, 9] (setL L 4)) []) _; rw [hmk]; exact hM)⟩
      ·
       exact absurd (hL3 8 (Nat.le_of_ble_eq_true rfl) l8 6 (by decide)) (by rw [l6]; decide)
    ·
     cases l7 : L 7
     ·
      cases l8 : L 8
      ·
       replace hO : Mem (List.getD _ (maskN [6, 7, 8, 9] L) []) w := hO
       rw [show maskN [6, 7, 8, 9] L = 1 from by simp only [maskN, l6, l7, l8, l9] <;> rfl] at hO
       have hM : Mem _ w := hO
       have e12 : ρ (.tmp 12) = .pointer (some ⟨b1_1, 1, none⟩) := E.d 3 _ 12 rfl rfl rfl
       refine (if_pos rfl).mpr ?_
       have hmk : maskN [6, 7, 8, 9] (setL L 4) = 1 := by simp only [maskN, setL, l6, l7, l8, l9] <;> rfl
       exact res_ok (x_fieldAddr (off := 4) rfl (e12) (by kernel_rfl) rfl) ⟨(0, undef), rfl, (by show Mem (List.getD _ (maskN [6, 7, 8, 9] (setL L 4)) []) _; rw [hmk]; exact hM)⟩
      ·
       exact absurd (hL3 8 (Nat.le_of_ble_eq_true rfl) l8 7 (by decide)) (by rw [l7]; decide)
     ·
      cases l8 : L 8
      ·
       replace hO : Mem (List.getD _ (maskN [6, 7, 8, 9] L) []) w := hO
       rw [show maskN [6, 7, 8, 9] L = 3 from by simp only [maskN, l6, l7, l8, l9] <;> rfl] at hO
       have hM : Mem _ w := hO
       have e12 : ρ (.tmp 12) = .pointer (some ⟨b1_1, 1, none⟩) := E.d 3 _ 12 rfl rfl rfl
       refine (if_pos rfl).mpr ?_
       have hmk : maskN [6, 7, 8, 9] (setL L 4) = 3 := by simp only [maskN, setL, l6, l7, l8, l9] <;> rfl
       exact res_ok (x_fieldAddr (off := 4) rfl (e12) (by kernel_rfl) rfl) ⟨(0, undef), rfl, (by show Mem (List.getD _ (maskN [6, 7, 8, 9] (setL L 4)) []) _; rw [hmk]; exact hM)⟩
      ·
       replace hO : Mem (List.getD _ (maskN [6, 7, 8, 9] L) []) w := hO
       rw [show maskN [6, 7, 8, 9] L = 7 from by simp only [maskN, l6, l7, l8, l9] <;> rfl] at hO
       have hM : Mem _ w := hO
       have e12 : ρ (.tmp 12) = .pointer (some ⟨b1_1, 1, none⟩) := E.d 3 _ 12 rfl rfl rfl
       refine (if_pos rfl).mpr ?_
       have hmk : maskN [6, 7, 8, 9] (setL L 4) = 7 := by simp only [maskN, setL, l6, l7, l8, l9] <;> rfl
       exact res_ok (x_fieldAddr (off := 4) rfl (e12) (by kernel_rfl) rfl) ⟨(0, undef), rfl, (by show Mem (List.getD _ (maskN [6, 7, 8, 9] (setL L 4)) []) _; rw [hmk]; exact hM)⟩
   ·
    intro L e w ρ hL0 hL1 hL2 hL3 hO E
    have l9 : L 9 = false := hL2 9 (Nat.le_of_ble_eq_true rfl) (by decide)
    cases l6 : L 6
    ·
     cases l7 : L 7
     ·
      cases l8 : L 8
      ·
       replace hO : Mem (List.getD _ (maskN [6, 7, 8, 9] L) []) w := hO
       rw [show maskN [6, 7, 8, 9] L = 0 from by simp only [maskN, l6, l7, l8, l9] <;> rfl] at hO
       have hM : Mem _ w := hO
       have e13 : ρ (.tmp 13) = .pointer (some ⟨b1_1, 5, none⟩) := E.d 4 _ 13 rfl rfl rfl
       refine (if_pos rfl).mpr ?_
       have hmk : maskN [6, 7, 8, 9] (setL L 5) = 0 := by simp only [maskN, setL, l6, l7, l8, l9] <;> rfl
       exact res_ok (x_loads rfl (e13) (by kernel_rfl) (load_part (hM.box 0 rfl) [.string b.cmd.name, .slice al2 b.cmd.legs.length cl2, .int .i64 b.cmd.fare, .slice at2 b.cmd.taxes.length ct2, .int .i64 b.cmd.penalty] rfl (Nat.le_of_ble_eq_true rfl) rfl)) ⟨(0, undef), rfl, (by show Mem (List.getD _ (maskN [6, 7, 8, 9] (setL L 5)) []) _; rw [hmk]; exact hM)⟩
      ·
       exact absurd (hL3 8 (Nat.le_of_ble_eq_true rfl) l8 6 (by decide)) (by rw [l6]; decide)
     ·
      cases l8 : L 8
      ·
       replace hO : Mem (List.getD _ (maskN [6, 7, 8, 9] L) []) w := hO
       rw [show maskN [6, 7, 8, 9] L = 2 from by simp only [maskN, l6, l7, l8, l9] <;> rfl] at hO
       have hM : Mem _ w := hO
       have e13 : ρ (.tmp 13) = .pointer (some ⟨b1_1, 5, none⟩) := E.d 4 _ 13 rfl rfl rfl
       refine (if_pos rfl).mpr ?_
       have hmk : maskN [6, 7, 8, 9] (setL L 5) = 2 := by simp only [maskN, setL, l6, l7, l8, l9] <;> rfl
       exact res_ok (x_loads rfl (e13) (by kernel_rfl) (load_part (hM.box 1 rfl) [.string b.cmd.name, .slice al2 b.cmd.legs.length cl2, .int .i64 b.cmd.fare, .slice at2 b.cmd.taxes.length ct2, .int .i64 b.cmd.penalty] rfl (Nat.le_of_ble_eq_true rfl) rfl)) ⟨(0, undef), rfl, (by show Mem (List.getD _ (maskN [6, 7, 8, 9] (setL L 5)) []) _; rw [hmk]; exact hM)⟩
      ·
       exact absurd (hL3 8 (Nat.le_of_ble_eq_true rfl) l8 6 (by decide)) (by rw [l6]; decide)
    ·
     cases l7 : L 7
     ·
      cases l8 : L 8
      ·
       replace hO : Mem (List.getD _ (maskN [6, 7, 8, 9] L) []) w := hO
       rw [show maskN [6, 7, 8, 9] L = 1 from by simp only [maskN, l6, l7, l8, l9] <;> rfl] at hO
       have hM : Mem _ w := hO
       have e13 : ρ (.tmp 13) = .pointer (some ⟨b1_1, 5, none⟩) := E.d 4 _ 13 rfl rfl rfl
       refine (if_pos rfl).mpr ?_
       have hmk : maskN [6, 7, 8, 9] (setL L 5) = 1 := by simp only [maskN, setL, l6, l7, l8, l9] <;> rfl
       exact res_ok (x_loads rfl (e13) (by kernel_rfl) (load_part (hM.box 1 rfl) [.string b.cmd.name, .slice al2 b.cmd.legs.length cl2, .int .i64 b.cmd.fare, .slice at2 b.cmd.taxes.length ct2, .int .i64 b.cmd.penalty] rfl (Nat.le_of_ble_eq_true rfl) rfl)) ⟨(0, undef), rfl, (by show Mem (List.getD _ (maskN [6, 7, 8, 9] (setL L 5)) []) _; rw [hmk]; exact hM)⟩
      ·
       exact absurd (hL3 8 (Nat.le_of_ble_eq_true rfl) l8 7 (by decide)) (by rw [l7]; decide)
     ·
      cases l8 : L 8
      ·
       replace hO : Mem (List.getD _ (maskN [6, 7, 8, 9] L) []) w := hO
       rw [show maskN [6, 7, 8, 9] L = 3 from by simp only [maskN, l6, l7, l8, l9] <;> rfl] at hO
       have hM : Mem _ w := hO
       have e13 : ρ (.tmp 13) = .pointer (some ⟨b1_1, 5, none⟩) := E.d 4 _ 13 rfl rfl rfl
       refine (if_pos rfl).mpr ?_
       have hmk : maskN [6, 7, 8, 9] (setL L 5) = 3 := by simp only [maskN, setL, l6, l7, l8, l9] <;> rfl
       exact res_ok (x_loads rfl (e13) (by kernel_rfl) (load_part (hM.box 2 rfl) [.string b.cmd.name, .slice al2 b.cmd.legs.length cl2, .int .i64 b.cmd.fare, .slice at2 b.cmd.taxes.length ct2, .int .i64 b.cmd.penalty] rfl (Nat.le_of_ble_eq_true rfl) rfl)) ⟨(0, undef), rfl, (by show Mem (List.getD _ (maskN [6, 7, 8, 9] (setL L 5)) []) _; rw [hmk]; exact hM)⟩
      ·
       replace hO : Mem (List.getD _ (maskN [6, 7, 8, 9] L) []) w := hO
       rw [show maskN [6, 7, 8, 9] L = 7 from by simp only [maskN, l6, l7, l8, l9] <;> rfl] at hO
       have hM : Mem _ w := hO
       have e13 : ρ (.tmp 13) = .pointer (some ⟨b1_1, 5, none⟩) := E.d 4 _ 13 rfl rfl rfl
       refine (if_pos rfl).mpr ?_
       have hmk : maskN [6, 7, 8, 9] (setL L 5) = 7 := by simp only [maskN, setL, l6, l7, l8, l9] <;> rfl
       exact res_ok (x_loads rfl (e13) (by kernel_rfl) (load_part (hM.box 2 rfl) [.string b.cmd.name, .slice al2 b.cmd.legs.length cl2, .int .i64 b.cmd.fare, .slice at2 b.cmd.taxes.length ct2, .int .i64 b.cmd.penalty] rfl (Nat.le_of_ble_eq_true rfl) rfl)) ⟨(0, undef), rfl, (by show Mem (List.getD _ (maskN [6, 7, 8, 9] (setL L 5)) []) _; rw [hmk]; exact hM)⟩
   ·
    intro L e w ρ hL0 hL1 hL2 hL3 hO E
    have l6 := hL0
    have l8 : L 8 = false := hL2 8 (Nat.le_of_ble_eq_true rfl) (by decide)
    have l9 : L 9 = false := hL2 9 (Nat.le_of_ble_eq_true rfl) (by decide)
    cases l7 : L 7
    ·
     replace hO : Mem (List.getD _ (maskN [6, 7, 8, 9] L) []) w := hO
     rw [show maskN [6, 7, 8, 9] L = 0 from by simp only [maskN, l6, l7, l8, l9] <;> rfl] at hO
     have hM : Mem (boxC b1_1 (recCells b (.slice al2 b.cmd.legs.length cl2) (.slice at2 b.cmd.taxes.length ct2)) :: boxC b1_0 (recCells a (.slice al1 a.cmd.legs.length cl1) (.slice at1 a.cmd.taxes.length ct1)) :: R) w := hO
     refine (if_pos rfl).mpr ?_
     have hmk : maskN [6, 7, 8, 9] (setL L 6) = 1 := by simp only [maskN, setL, l6, l7, l8, l9] <;> rfl
     exact res_ok (x_alloc (z := .agg #[.string ByteArray.empty, .slice none 0 0, .int .i64 0, .slice none 0 0, .int .i64 0]) rfl (by kernel_rfl)) ⟨(w.heap.size, undef), rfl, (by show Mem (List.getD _ (maskN [6, 7, 8, 9] (setL L 6)) []) _; rw [hmk]; exact (hM.alloc _ _))⟩
    ·
     replace hO : Mem (List.getD _ (maskN [6, 7, 8, 9] L) []) w := hO
     rw [show maskN [6, 7, 8, 9] L = 2 from by simp only [maskN, l6, l7, l8, l9] <;> rfl] at hO
     have hM : Mem (boxC ((e 7).1) #[.string ByteArray.empty, .slice none 0 0, .int .i64 0, .slice none 0 0, .int .i64 0] :: boxC b1_1 (recCells b (.slice al2 b.cmd.legs.length cl2) (.slice at2 b.cmd.taxes.length ct2)) :: boxC b1_0 (recCells a (.slice al1 a.cmd.legs.length cl1) (.slice at1 a.cmd.taxes.length ct1)) :: R) w := hO
     refine (if_pos rfl).mpr ?_
     have hmk : maskN [6, 7, 8, 9] (setL L 6) = 3 := by simp only [maskN, setL, l6, l7, l8, l9] <;> rfl
     exact res_ok (x_alloc (z := .agg #[.string ByteArray.empty, .slice none 0 0, .int .i64 0, .slice none 0 0, .int .i64 0]) rfl (by kernel_rfl)) ⟨(w.heap.size, undef), rfl, (by show Mem (List.getD _ (maskN [6, 7, 8, 9] (setL L 6)) []) _; rw [hmk]; exact (((((hM.alloc _ _)).front 3 rfl).front 3 rfl).front 2 rfl).front 3 rfl)⟩
   ·
    intro L e w ρ hL0 hL1 hL2 hL3 hO E
    have l7 := hL0
    have l8 : L 8 = false := hL2 8 (Nat.le_of_ble_eq_true rfl) (by decide)
    have l9 : L 9 = false := hL2 9 (Nat.le_of_ble_eq_true rfl) (by decide)
    cases l6 : L 6
    ·
     replace hO : Mem (List.getD _ (maskN [6, 7, 8, 9] L) []) w := hO
     rw [show maskN [6, 7, 8, 9] L = 0 from by simp only [maskN, l6, l7, l8, l9] <;> rfl] at hO
     have hM : Mem (boxC b1_1 (recCells b (.slice al2 b.cmd.legs.length cl2) (.slice at2 b.cmd.taxes.length ct2)) :: boxC b1_0 (recCells a (.slice al1 a.cmd.legs.length cl1) (.slice at1 a.cmd.taxes.length ct1)) :: R) w := hO
     refine (if_pos rfl).mpr ?_
     have hmk : maskN [6, 7, 8, 9] (setL L 7) = 2 := by simp only [maskN, setL, l6, l7, l8, l9] <;> rfl
     exact res_ok (x_alloc (z := .agg #[.string ByteArray.empty, .slice none 0 0, .int .i64 0, .slice none 0 0, .int .i64 0]) rfl (by kernel_rfl)) ⟨(w.heap.size, undef), rfl, (by show Mem (List.getD _ (maskN [6, 7, 8, 9] (setL L 7)) []) _; rw [hmk]; exact (hM.alloc _ _))⟩
    ·
     replace hO : Mem (List.getD _ (maskN [6, 7, 8, 9] L) []) w := hO
     rw [show maskN [6, 7, 8, 9] L = 1 from by simp only [maskN, l6, l7, l8, l9] <;> rfl] at hO
     have hM : Mem (boxC ((e 6).1) #[.string ByteArray.empty, .slice none 0 0, .int .i64 0, .slice none 0 0, .int .i64 0] :: boxC b1_1 (recCells b (.slice al2 b.cmd.legs.length cl2) (.slice at2 b.cmd.taxes.length ct2)) :: boxC b1_0 (recCells a (.slice al1 a.cmd.legs.length cl1) (.slice at1 a.cmd.taxes.length ct1)) :: R) w := hO
     refine (if_pos rfl).mpr ?_
     have hmk : maskN [6, 7, 8, 9] (setL L 7) = 3 := by simp only [maskN, setL, l6, l7, l8, l9] <;> rfl
     exact res_ok (x_alloc (z := .agg #[.string ByteArray.empty, .slice none 0 0, .int .i64 0, .slice none 0 0, .int .i64 0]) rfl (by kernel_rfl)) ⟨(w.heap.size, undef), rfl, (by show Mem (List.getD _ (maskN [6, 7, 8, 9] (setL L 7)) []) _; rw [hmk]; exact (hM.alloc _ _))⟩
   ·
    intro L e w ρ hL0 hL1 hL2 hL3 hO E
    have l6 : L 6 = true := hL1 6 (by decide)
    have l7 : L 7 = true := hL1 7 (by decide)
    have l8 := hL0
    have l9 : L 9 = false := hL2 9 (Nat.le_of_ble_eq_true rfl) (by decide)
    replace hO : Mem (List.getD _ (maskN [6, 7, 8, 9] L) []) w := hO
    rw [show maskN [6, 7, 8, 9] L = 3 from by simp only [maskN, l6, l7, l8, l9] <;> rfl] at hO
    have hM : Mem (boxC ((e 7).1) #[.string ByteArray.empty, .slice none 0 0, .int .i64 0, .slice none 0 0, .int .i64 0] :: boxC ((e 6).1) #[.string ByteArray.empty, .slice none 0 0, .int .i64 0, .slice none 0 0, .int .i64 0] :: boxC b1_1 (recCells b (.slice al2 b.cmd.legs.length cl2) (.slice at2 b.cmd.taxes.length ct2)) :: boxC b1_0 (recCells a (.slice al1 a.cmd.legs.length cl1) (.slice at1 a.cmd.taxes.length ct1)) :: R) w := hO
    have e5 : ρ (.tmp 5) = .pointer (some ⟨(e 6).1, 0, none⟩) := E.d 6 _ 5 rfl rfl rfl
    have e11 : ρ (.tmp 11) = .agg #[.string a.cmd.name, .slice al1 a.cmd.legs.length cl1, .int .i64 a.cmd.fare, .slice at1 a.cmd.taxes.length ct1, .int .i64 a.cmd.penalty] := E.d 2 _ 11 rfl rfl rfl
    refine (if_pos rfl).mpr ?_
    have hmk : maskN [6, 7, 8, 9] (setL L 8) = 7 := by simp only [maskN, setL, l6, l7, l8, l9] <;> rfl
    obtain ⟨w', hr, hm⟩ := Mem.store (P := Try.prog) hM 1 rfl 28 0 (.agg #[.string a.cmd.name, .slice al1 a.cmd.legs.length cl1, .int .i64 a.cmd.fare, .slice at1 a.cmd.taxes.length ct1, .int .i64 a.cmd.penalty]) [.string a.cmd.name, .slice al1 a.cmd.legs.length cl1, .int .i64 a.cmd.fare, .slice at1 a.cmd.taxes.length ct1, .int .i64 a.cmd.penalty] rfl (by kernel_rfl) (Nat.le_of_ble_eq_true rfl) (by rfl)
    exact res_st (x_store rfl (e5) (e11) hr) ⟨(0, undef), rfl, (by show Mem (List.getD _ (maskN [6, 7, 8, 9] (setL L 8)) []) _; rw [hmk]; exact hm)⟩
   ·
    intro L e w ρ hL0 hL1 hL2 hL3 hO E
    have l6 : L 6 = true := hL1 6 (by decide)
    have l7 : L 7 = true := hL1 7 (by decide)
    have l8 : L 8 = true := hL1 8 (by decide)
    have l9 := hL0
    replace hO : Mem (List.getD _ (maskN [6, 7, 8, 9] L) []) w := hO
    rw [show maskN [6, 7, 8, 9] L = 7 from by simp only [maskN, l6, l7, l8, l9] <;> rfl] at hO
    have hM : Mem (boxC ((e 7).1) #[.string ByteArray.empty, .slice none 0 0, .int .i64 0, .slice none 0 0, .int .i64 0] :: boxC ((e 6).1) #[.string a.cmd.name, .slice al1 a.cmd.legs.length cl1, .int .i64 a.cmd.fare, .slice at1 a.cmd.taxes.length ct1, .int .i64 a.cmd.penalty] :: boxC b1_1 (recCells b (.slice al2 b.cmd.legs.length cl2) (.slice at2 b.cmd.taxes.length ct2)) :: boxC b1_0 (recCells a (.slice al1 a.cmd.legs.length cl1) (.slice at1 a.cmd.taxes.length ct1)) :: R) w := hO
    have e6 : ρ (.tmp 6) = .pointer (some ⟨(e 7).1, 0, none⟩) := E.d 7 _ 6 rfl rfl rfl
    have e14 : ρ (.tmp 14) = .agg #[.string b.cmd.name, .slice al2 b.cmd.legs.length cl2, .int .i64 b.cmd.fare, .slice at2 b.cmd.taxes.length ct2, .int .i64 b.cmd.penalty] := E.d 5 _ 14 rfl rfl rfl
    refine (if_pos rfl).mpr ?_
    have hmk : maskN [6, 7, 8, 9] (setL L 9) = 15 := by simp only [maskN, setL, l6, l7, l8, l9] <;> rfl
    obtain ⟨w', hr, hm⟩ := Mem.store (P := Try.prog) hM 0 rfl 28 0 (.agg #[.string b.cmd.name, .slice al2 b.cmd.legs.length cl2, .int .i64 b.cmd.fare, .slice at2 b.cmd.taxes.length ct2, .int .i64 b.cmd.penalty]) [.string b.cmd.name, .slice al2 b.cmd.legs.length cl2, .int .i64 b.cmd.fare, .slice at2 b.cmd.taxes.length ct2, .int .i64 b.cmd.penalty] rfl (by kernel_rfl) (Nat.le_of_ble_eq_true rfl) (by rfl)
    exact res_st (x_store rfl (e6) (e14) hr) ⟨(0, undef), rfl, (by show Mem (List.getD _ (maskN [6, 7, 8, 9] (setL L 9)) []) _; rw [hmk]; exact hm)⟩
  ·
   intro e a2 w2 hz2 hd hG hO hM
   have hd2 := hd.trans hd1
   have g2_2 := (hO 2 rfl).trans g2_1
   have g3_2 := (hO 3 rfl).trans g3_1
   have g4_2 := (hO 4 rfl).trans g4_1
   have g5_2 : a2.tmps[5]? = some (.pointer (some ⟨(e 6).1, 0, none⟩)) := hG 6 _ 5 rfl rfl
   have g6_2 : a2.tmps[6]? = some (.pointer (some ⟨(e 7).1, 0, none⟩)) := hG 7 _ 6 rfl rfl
   have hM2 : Mem (boxC ((e 7).1) #[.string b.cmd.name, .slice al2 b.cmd.legs.length cl2, .int .i64 b.cmd.fare, .slice at2 b.cmd.taxes.length ct2, .int .i64 b.cmd.penalty] :: boxC ((e 6).1) #[.string a.cmd.name, .slice al1 a.cmd.legs.length cl1, .int .i64 a.cmd.fare, .slice at1 a.cmd.taxes.length ct1, .int .i64 a.cmd.penalty] :: boxC b1_1 (recCells b (.slice al2 b.cmd.legs.length cl2) (.slice at2 b.cmd.taxes.length ct2)) :: boxC b1_0 (recCells a (.slice al1 a.cmd.legs.length cl1) (.slice at1 a.cmd.taxes.length ct1)) :: R) w2 := hM
   clear hM hG hO hd
   clear hz1 hd1 hM1 g2_1 g3_1 g4_1
   generalize (e 6).1 = b2_6 at *
   generalize (e 7).1 = b2_7 at *
   refine then_n ?_
   refine wp_seq ?_
   refine wp_seq ?_
   by_cases hnl : (a.cmd.legs.length : Int) = (b.cmd.legs.length : Int)
   ·
    refine region_seq 150 (fun zz e => (#[.pointer (some ⟨b2_6, 1, none⟩), .slice al1 a.cmd.legs.length cl1, .int .i64 (a.cmd.legs.length : Int), .pointer (some ⟨b2_7, 1, none⟩), .slice al2 b.cmd.legs.length cl2, .int .i64 (b.cmd.legs.length : Int), .bool false, .bool false, .pointer (some ⟨b2_6, 3, none⟩), .slice at1 a.cmd.taxes.length ct1, .int .i64 (a.cmd.taxes.length : Int), .pointer (some ⟨b2_7, 3, none⟩), .slice at2 b.cmd.taxes.length ct2, .int .i64 (b.cmd.taxes.length : Int), .bool (!decide ((a.cmd.taxes.length : Int) = (b.cmd.taxes.length : Int))), .bool (!decide ((a.cmd.taxes.length : Int) = (b.cmd.taxes.length : Int)))] : Array Value).getD zz undef) (fun k e w => Mem (List.getD [boxC b2_7 #[.string b.cmd.name, .slice al2 b.cmd.legs.length cl2, .int .i64 b.cmd.fare, .slice at2 b.cmd.taxes.length ct2, .int .i64 b.cmd.penalty] :: boxC b2_6 #[.string a.cmd.name, .slice al1 a.cmd.legs.length cl1, .int .i64 a.cmd.fare, .slice at1 a.cmd.taxes.length ct1, .int .i64 a.cmd.penalty] :: boxC b1_1 (recCells b (.slice al2 b.cmd.legs.length cl2) (.slice at2 b.cmd.taxes.length ct2)) :: boxC b1_0 (recCells a (.slice al1 a.cmd.legs.length cl1) (.slice at1 a.cmd.taxes.length ct1)) :: R] k []) w) (fun _ => (0, undef)) [] [0, 0, 0, 0, 0, 0, 0, 0, 0, 0, 0, 0, 0, 0, 0, 0] (fun _ _ => false) hz2 (by kernel_rfl) (by kernel_rfl) (by kernel_rfl) ?_ (show Mem _ _ from hM2) ?_ ?_
    · exact ⟨fun _ _ _ => rfl, fun _ _ _ => rfl, fun _ _ _ => rfl, fun _ _ _ => rfl, fun _ _ _ => rfl, fun _ _ _ => rfl, fun _ _ _ => rfl, fun _ _ _ => rfl, fun _ _ _ => rfl, fun _ _ _ => rfl, fun _ _ _ => rfl, fun _ _ _ => rfl, fun _ _ _ => rfl, fun _ _ _ => rfl, fun _ _ _ => rfl, fun _ _ _ => rfl, trivial⟩
    ·
     refine ⟨?_, ?_, ?_, ?_, ?_, ?_, ?_, ?_, ?_, ?_, ?_, ?_, ?_, ?_, ?_, ?_, trivial⟩
     · exact op2 (a := 0) rfl fun e w ρ (hM : Mem _ w) E => res_ok (x_fieldAddr (off := 1) rfl (E.o 5 _ rfl g5_2) (by kernel_rfl) rfl) (goes_still rfl rfl hM)
     · exact op2 (a := 0) rfl fun e w ρ (hM : Mem _ w) E => res_ok (x_load rfl (E.d 0 _ 15 rfl rfl rfl) (by kernel_rfl) ((hM.box 1 rfl).cell 1 rfl)) (goes_still rfl rfl hM)
     ·
      refine op2 (a := 0) rfl fun e w ρ (hM : Mem _ w) E => ?_
      have e16 : ρ (.tmp 16) = .slice al1 a.cmd.legs.length cl1 := E.d 1 _ 16 rfl rfl rfl
      exact res_ok (x_len (n := 3) rfl rfl rfl rfl (e16) (by kernel_rfl)) (goes_still rfl rfl hM)
     · exact op2 (a := 0) rfl fun e w ρ (hM : Mem _ w) E => res_ok (x_fieldAddr (off := 1) rfl (E.o 6 _ rfl g6_2) (by kernel_rfl) rfl) (goes_still rfl rfl hM)
     · exact op2 (a := 0) rfl fun e w ρ (hM : Mem _ w) E => res_ok (x_load rfl (E.d 3 _ 18 rfl rfl rfl) (by kernel_rfl) ((hM.box 0 rfl).cell 1 rfl)) (goes_still rfl rfl hM)
     ·
      refine op2 (a := 0) rfl fun e w ρ (hM : Mem _ w) E => ?_
      have e19 : ρ (.tmp 19) = .slice al2 b.cmd.legs.length cl2 := E.d 4 _ 19 rfl rfl rfl
      exact res_ok (x_len (n := 3) rfl rfl rfl rfl (e19) (by kernel_rfl)) (goes_still rfl rfl hM)
     · exact op2 (a := 0) rfl fun e w ρ (hM : Mem _ w) E => res_ok (x_neq rfl (E.d 2 _ 17 rfl rfl rfl) (E.d 5 _ 20 rfl rfl rfl) (by rw [decide_eq_true hnl]; rfl)) (goes_still rfl rfl hM)
     · exact op2 (a := 0) rfl fun e w ρ (hM : Mem _ w) E => res_ok (x_move rfl (E.d 6 _ 21 rfl rfl rfl)) (goes_still rfl rfl hM)
     · exact op1 (a := 0) rfl fun e w ρ (hM : Mem _ w) E => (if_pos rfl).mpr (res_ok (x_fieldAddr (off := 3) rfl (E.o 5 _ rfl g5_2) (by kernel_rfl) rfl) (goes_still rfl rfl hM))
     · exact op1 (a := 0) rfl fun e w ρ (hM : Mem _ w) E => (if_pos rfl).mpr (res_ok (x_load rfl (E.d 8 _ 23 rfl rfl rfl) (by kernel_rfl) ((hM.box 1 rfl).cell 3 rfl)) (goes_still rfl rfl hM))
     ·
      refine op1 (a := 0) rfl fun e w ρ (hM : Mem _ w) E => ?_
      have e24 : ρ (.tmp 24) = .slice at1 a.cmd.taxes.length ct1 := E.d 9 _ 24 rfl rfl rfl
      refine (if_pos rfl).mpr ?_
      exact res_ok (x_len (n := 2) rfl rfl rfl rfl (e24) (by kernel_rfl)) (goes_still rfl rfl hM)
     · exact op1 (a := 0) rfl fun e w ρ (hM : Mem _ w) E => (if_pos rfl).mpr (res_ok (x_fieldAddr (off := 3) rfl (E.o 6 _ rfl g6_2) (by kernel_rfl) rfl) (goes_still rfl rfl hM))
     · exact op1 (a := 0) rfl fun e w ρ (hM : Mem _ w) E => (if_pos rfl).mpr (res_ok (x_load rfl (E.d 11 _ 26 rfl rfl rfl) (by kernel_rfl) ((hM.box 0 rfl).cell 3 rfl)) (goes_still rfl rfl hM))
     ·
      refine op1 (a := 0) rfl fun e w ρ (hM : Mem _ w) E => ?_
      have e27 : ρ (.tmp 27) = .slice at2 b.cmd.taxes.length ct2 := E.d 12 _ 27 rfl rfl rfl
      refine (if_pos rfl).mpr ?_
      exact res_ok (x_len (n := 2) rfl rfl rfl rfl (e27) (by kernel_rfl)) (goes_still rfl rfl hM)
     · exact op1 (a := 0) rfl fun e w ρ (hM : Mem _ w) E => (if_pos rfl).mpr (res_ok (x_neq rfl (E.d 10 _ 25 rfl rfl rfl) (E.d 13 _ 28 rfl rfl rfl) rfl) (goes_still rfl rfl hM))
     ·
      refine op2 (a := 0) rfl fun e w ρ (hM : Mem _ w) E => ?_
      have e22 : ρ (.tmp 22) = .bool false := E.d 7 _ 22 rfl rfl rfl
      have e29 : ρ (.tmp 29) = .bool (!decide ((a.cmd.taxes.length : Int) = (b.cmd.taxes.length : Int))) := E.d 14 _ 29 rfl rfl rfl
      exact res_ok (x_pick rfl (e22) (e29)) (goes_still rfl rfl hM)
    ·
     intro e a3 w3 hz3 hd hG hO hM
     have hd3 := hd.trans hd2
     have g2_3 := (hO 2 rfl).trans g2_2
     have g3_3 := (hO 3 rfl).trans g3_2
     have g4_3 := (hO 4 rfl).trans g4_2
     have g5_3 := (hO 5 rfl).trans g5_2
     have g6_3 := (hO 6 rfl).trans g6_2
     have g30_3 : a3.tmps[30]? = some (.bool (!decide ((a.cmd.taxes.length : Int) = (b.cmd.taxes.length : Int)))) := hG 15 _ 30 rfl rfl
     have hM3 : Mem (boxC b2_7 #[.string b.cmd.name, .slice al2 b.cmd.legs.length cl2, .int .i64 b.cmd.fare, .slice at2 b.cmd.taxes.length ct2, .int .i64 b.cmd.penalty] :: boxC b2_6 #[.string a.cmd.name, .slice al1 a.cmd.legs.length cl1, .int .i64 a.cmd.fare, .slice at1 a.cmd.taxes.length ct1, .int .i64 a.cmd.penalty] :: boxC b1_1 (recCells b (.slice al2 b.cmd.legs.length cl2) (.slice at2 b.cmd.taxes.length ct2)) :: boxC b1_0 (recCells a (.slice al1 a.cmd.legs.length cl1) (.slice at1 a.cmd.taxes.length ct1)) :: R) w3 := hM
     clear hM hG hO hd
     clear hz2 hd2 hM2 g2_2 g3_2 g4_2 g5_2 g6_2
     refine then_n ?_
     by_cases hnt : (a.cmd.taxes.length : Int) = (b.cmd.taxes.length : Int)
     ·
      refine cond_f (g30_3.trans (by rw [decide_eq_true hnt]; rfl)) ?_
      refine wp_skip ?_
      refine then_n ?_
      refine wp_seq ?_
      refine wp_seq ?_
      refine region_seq 150 (fun zz e => (#[.int .i64 0] : Array Value).getD zz undef) (fun k e w => Mem (List.getD [boxC b2_7 #[.string b.cmd.name, .slice al2 b.cmd.legs.length cl2, .int .i64 b.cmd.fare, .slice at2 b.cmd.taxes.length ct2, .int .i64 b.cmd.penalty] :: boxC b2_6 #[.string a.cmd.name, .slice al1 a.cmd.legs.length cl1, .int .i64 a.cmd.fare, .slice at1 a.cmd.taxes.length ct1, .int .i64 a.cmd.penalty] :: boxC b1_1 (recCells b (.slice al2 b.cmd.legs.length cl2) (.slice at2 b.cmd.taxes.length ct2)) :: boxC b1_0 (recCells a (.slice al1 a.cmd.legs.length cl1) (.slice at1 a.cmd.taxes.length ct1)) :: R] k []) w) (fun _ => (0, undef)) [] [0] (fun _ _ => false) hz3 (by kernel_rfl) (by kernel_rfl) (by kernel_rfl) ?_ (show Mem _ _ from hM3) ?_ ?_
      · exact ⟨fun _ _ _ => rfl, trivial⟩
      ·
       refine ⟨?_, trivial⟩
       · exact op2 (a := 0) rfl fun e w ρ (hM : Mem _ w) E => res_ok (x_assign rfl (E.c _)) (goes_still rfl rfl hM)
      ·
       intro e a4 w4 hz4 hd hG hO hM
       have hd4 := hd.trans hd3
       have g2_4 := (hO 2 rfl).trans g2_3
       have g3_4 := (hO 3 rfl).trans g3_3
       have g4_4 := (hO 4 rfl).trans g4_3
       have g5_4 := (hO 5 rfl).trans g5_3
       have g6_4 := (hO 6 rfl).trans g6_3
       have g7_4 : a4.tmps[7]? = some (.int .i64 0) := hG 0 _ 7 rfl rfl
       have hM4 : Mem (boxC b2_7 #[.string b.cmd.name, .slice al2 b.cmd.legs.length cl2, .int .i64 b.cmd.fare, .slice at2 b.cmd.taxes.length ct2, .int .i64 b.cmd.penalty] :: boxC b2_6 #[.string a.cmd.name, .slice al1 a.cmd.legs.length cl1, .int .i64 a.cmd.fare, .slice at1 a.cmd.taxes.length ct1, .int .i64 a.cmd.penalty] :: boxC b1_1 (recCells b (.slice al2 b.cmd.legs.length cl2) (.slice at2 b.cmd.taxes.length ct2)) :: boxC b1_0 (recCells a (.slice al1 a.cmd.legs.length cl1) (.slice at1 a.cmd.taxes.length ct1)) :: R) w4 := hM
       clear hM hG hO hd
       clear hz3 hd3 hM3 g2_3 g3_3 g4_3 g5_3 g6_3 g30_3
       refine then_n ?_
       refine wp_block ?_
       refine loopx (X := Nat) (fun i aa ww => aa.tmps.size = 150 ∧ aa.defers = [] ∧ aa.tmps[2]? = some (.pointer (some ⟨b1_0, 0, none⟩)) ∧ aa.tmps[3]? = some (.pointer (some ⟨b1_1, 0, none⟩)) ∧ aa.tmps[5]? = some (.pointer (some ⟨b2_6, 0, none⟩)) ∧ aa.tmps[6]? = some (.pointer (some ⟨b2_7, 0, none⟩)) ∧ aa.tmps[7]? = some (.int .i64 (i : Int)) ∧ Mem (boxC b2_7 #[.string b.cmd.name, .slice al2 b.cmd.legs.length cl2, .int .i64 b.cmd.fare, .slice at2 b.cmd.taxes.length ct2, .int .i64 b.cmd.penalty] :: boxC b2_6 #[.string a.cmd.name, .slice al1 a.cmd.legs.length cl1, .int .i64 a.cmd.fare, .slice at1 a.cmd.taxes.length ct1, .int .i64 a.cmd.penalty] :: boxC b1_1 (recCells b (.slice al2 b.cmd.legs.length cl2) (.slice at2 b.cmd.taxes.length ct2)) :: boxC b1_0 (recCells a (.slice al1 a.cmd.legs.length cl1) (.slice at1 a.cmd.taxes.length ct1)) :: R) ww ∧ i ≤ a.cmd.legs.length ∧ listB legB (a.cmd.legs.drop i) (b.cmd.legs.drop i) = listB legB a.cmd.legs b.cmd.legs) (fun i => a.cmd.legs.length - i) (0) ?_ ?_
       ·
        exact ⟨hz4, hd4, g2_4, g3_4, g5_4, g6_4, (by have h := g7_4; exact h.trans (by congr 2 <;> first | rfl | omega)), (hM4), (Nat.zero_le _), (rfl)⟩
       ·
        clear hz4 hd4 hM4 g2_4 g3_4 g4_4 g5_4 g6_4 g7_4
        rintro i a5 w5 hI
        obtain ⟨hz5, hd5, g2_5, g3_5, g5_5, g6_5, g7_5, hM5, hi, hp⟩ := hI
        refine wp_seq ?_
        refine wp_seq ?_
        refine region_seq 150 (fun zz e => (#[.int .i64 (i : Int), .pointer (some ⟨b2_6, 1, none⟩), .slice al1 a.cmd.legs.length cl1, .int .i64 (a.cmd.legs.length : Int), .bool (decide ((i : Int) < (a.cmd.legs.length : Int)))] : Array Value).getD zz undef) (fun k e w => Mem (List.getD [boxC b2_7 #[.string b.cmd.name, .slice al2 b.cmd.legs.length cl2, .int .i64 b.cmd.fare, .slice at2 b.cmd.taxes.length ct2, .int .i64 b.cmd.penalty] :: boxC b2_6 #[.string a.cmd.name, .slice al1 a.cmd.legs.length cl1, .int .i64 a.cmd.fare, .slice at1 a.cmd.taxes.length ct1, .int .i64 a.cmd.penalty] :: boxC b1_1 (recCells b (.slice al2 b.cmd.legs.length cl2) (.slice at2 b.cmd.taxes.length ct2)) :: boxC b1_0 (recCells a (.slice al1 a.cmd.legs.length cl1) (.slice at1 a.cmd.taxes.length ct1)) :: R] k []) w) (fun _ => (0, undef)) [] [0, 0, 0, 0, 0] (fun _ _ => false) hz5 (by kernel_rfl) (by kernel_rfl) (by kernel_rfl) ?_ (show Mem _ _ from hM5) ?_ ?_
        · exact ⟨fun _ _ _ => rfl, fun _ _ _ => rfl, fun _ _ _ => rfl, fun _ _ _ => rfl, fun _ _ _ => rfl, trivial⟩
        ·
         refine ⟨?_, ?_, ?_, ?_, ?_, trivial⟩
         · exact op2 (a := 0) rfl fun e w ρ (hM : Mem _ w) E => res_ok (x_move rfl (E.o 7 _ rfl g7_5)) (goes_still rfl rfl hM)
         · exact op2 (a := 0) rfl fun e w ρ (hM : Mem _ w) E => res_ok (x_fieldAddr (off := 1) rfl (E.o 5 _ rfl g5_5) (by kernel_rfl) rfl) (goes_still rfl rfl hM)
         · exact op2 (a := 0) rfl fun e w ρ (hM : Mem _ w) E => res_ok (x_load rfl (E.d 1 _ 32 rfl rfl rfl) (by kernel_rfl) ((hM.box 1 rfl).cell 1 rfl)) (goes_still rfl rfl hM)
         ·
          refine op2 (a := 0) rfl fun e w ρ (hM : Mem _ w) E => ?_
          have e33 : ρ (.tmp 33) = .slice al1 a.cmd.legs.length cl1 := E.d 2 _ 33 rfl rfl rfl
          exact res_ok (x_len (n := 3) rfl rfl rfl rfl (e33) (by kernel_rfl)) (goes_still rfl rfl hM)
         · exact op2 (a := 0) rfl fun e w ρ (hM : Mem _ w) E => res_ok (x_lss rfl (E.d 0 _ 31 rfl rfl rfl) (E.d 3 _ 34 rfl rfl rfl) rfl) (goes_still rfl rfl hM)
        ·
         intro e a6 w6 hz6 hd hG hO hM
         have hd6 := hd.trans hd5
         have g2_6 := (hO 2 rfl).trans g2_5
         have g3_6 := (hO 3 rfl).trans g3_5
         have g5_6 := (hO 5 rfl).trans g5_5
         have g6_6 := (hO 6 rfl).trans g6_5
         have g7_6 := (hO 7 rfl).trans g7_5
         have g31_6 : a6.tmps[31]? = some (.int .i64 (i : Int)) := hG 0 _ 31 rfl rfl
         have g32_6 : a6.tmps[32]? = some (.pointer (some ⟨b2_6, 1, none⟩)) := hG 1 _ 32 rfl rfl
         have g33_6 : a6.tmps[33]? = some (.slice al1 a.cmd.legs.length cl1) := hG 2 _ 33 rfl rfl
         have g34_6 : a6.tmps[34]? = some (.int .i64 (a.cmd.legs.length : Int)) := hG 3 _ 34 rfl rfl
         have g35_6 : a6.tmps[35]? = some (.bool (decide ((i : Int) < (a.cmd.legs.length : Int)))) := hG 4 _ 35 rfl rfl
         have hM6 : Mem (boxC b2_7 #[.string b.cmd.name, .slice al2 b.cmd.legs.length cl2, .int .i64 b.cmd.fare, .slice at2 b.cmd.taxes.length ct2, .int .i64 b.cmd.penalty] :: boxC b2_6 #[.string a.cmd.name, .slice al1 a.cmd.legs.length cl1, .int .i64 a.cmd.fare, .slice at1 a.cmd.taxes.length ct1, .int .i64 a.cmd.penalty] :: boxC b1_1 (recCells b (.slice al2 b.cmd.legs.length cl2) (.slice at2 b.cmd.taxes.length ct2)) :: boxC b1_0 (recCells a (.slice al1 a.cmd.legs.length cl1) (.slice at1 a.cmd.taxes.length ct1)) :: R) w6 := hM
         clear hM hG hO hd
         clear hz5 hd5 hM5 g2_5 g3_5 g5_5 g6_5 g7_5
         refine then_n ?_
         by_cases hic : (i : Int) < (a.cmd.legs.length : Int)
         ·
          refine cond_t (g35_6.trans (by rw [decide_eq_true hic])) ?_
          obtain ⟨x, hx⟩ := list_at (show i < a.cmd.legs.length by omega)
          obtain ⟨y, hy⟩ := list_at (show i < b.cmd.legs.length by omega)
          obtain ⟨b1, o1, ha1, hcx⟩ := hl1.elem (show ∀ x, (legE x).length = 3 from fun _ => rfl) (by decide) hx hM6.tail.tail.tail.tail
          obtain ⟨b2, o2, ha2, hcy⟩ := hl2.elem (show ∀ x, (legE x).length = 3 from fun _ => rfl) (by decide) hy hM6.tail.tail.tail.tail
          refine wp_skip ?_
          refine then_n ?_
          refine wp_seq ?_
          refine wp_block ?_
          refine wp_seq ?_
          refine region_draw 150 (fun zz e => (#[.pointer (some ⟨b2_6, 1, none⟩), .slice al1 a.cmd.legs.length cl1, .int .i64 (i : Int), .pointer (some ⟨b1, o1 + i * 3, none⟩), .agg #[.int .u8 x.c, .int .u16 x.f, .int .u32 x.x], .pointer (some ⟨b2_7, 1, none⟩), .slice al2 b.cmd.legs.length cl2, .int .i64 (i : Int), .pointer (some ⟨b2, o2 + i * 3, none⟩), .agg #[.int .u8 y.c, .int .u16 y.f, .int .u32 y.x], .bool (!legB x y)] : Array Value).getD zz undef) (fun k e w => Mem (List.getD [boxC b2_7 #[.string b.cmd.name, .slice al2 b.cmd.legs.length cl2, .int .i64 b.cmd.fare, .slice at2 b.cmd.taxes.length ct2, .int .i64 b.cmd.penalty] :: boxC b2_6 #[.string a.cmd.name, .slice al1 a.cmd.legs.length cl1, .int .i64 a.cmd.fare, .slice at1 a.cmd.taxes.length ct1, .int .i64 a.cmd.penalty] :: boxC b1_1 (recCells b (.slice al2 b.cmd.legs.length cl2) (.slice at2 b.cmd.taxes.length ct2)) :: boxC b1_0 (recCells a (.slice al1 a.cmd.legs.length cl1) (.slice at1 a.cmd.taxes.length ct1)) :: R] k []) w) (fun _ => (0, undef)) [] [] [0, 0, 0, 0, 0, 0, 0, 0, 0, 0, 0] [0, 0, 0, 0, 0, 0, 0, 0, 0, 0, 0] (fun _ _ => false) hz6 (by kernel_rfl) (by kernel_rfl) (by kernel_rfl) (by kernel_rfl) (by kernel_rfl) ?_ (show Mem _ _ from hM6.drew) ?_ ?_
          · exact ⟨fun _ _ _ => rfl, fun _ _ _ => rfl, fun _ _ _ => rfl, fun _ _ _ => rfl, fun _ _ _ => rfl, fun _ _ _ => rfl, fun _ _ _ => rfl, fun _ _ _ => rfl, fun _ _ _ => rfl, fun _ _ _ => rfl, fun _ _ _ => rfl, trivial⟩
          ·
           refine ⟨?_, ?_, ?_, ?_, ?_, ?_, ?_, ?_, ?_, ?_, ?_, trivial⟩
           · exact op2 (a := 0) rfl fun e w ρ (hM : Mem _ w) E => res_ok (x_fieldAddr (off := 1) rfl (E.o 5 _ rfl g5_6) (by kernel_rfl) rfl) (goes_still rfl rfl hM)
           · exact op2 (a := 0) rfl fun e w ρ (hM : Mem _ w) E => res_ok (x_load rfl (E.d 0 _ 38 rfl rfl rfl) (by kernel_rfl) ((hM.box 1 rfl).cell 1 rfl)) (goes_still rfl rfl hM)
           · exact op2 (a := 0) rfl fun e w ρ (hM : Mem _ w) E => res_ok (x_move rfl (E.o 7 _ rfl g7_6)) (goes_still rfl rfl hM)
           ·
            refine op2 (a := 0) rfl fun e w ρ (hM : Mem _ w) E => ?_
            have e39 : ρ (.tmp 39) = .slice al1 a.cmd.legs.length cl1 := E.d 1 _ 39 rfl rfl rfl
            have e40 : ρ (.tmp 40) = .int .i64 (i : Int) := E.d 2 _ 40 rfl rfl rfl
            exact res_ok (x_idx (n := 3) (i := i) rfl (show _ = Value.slice (some ⟨b1, o1, none⟩) (a.cmd.legs.length) cl1 from by rw [← ha1]; exact e39) (e40) (by kernel_rfl) (by omega) rfl) (goes_still rfl rfl hM)
           ·
            refine op2 (a := 0) rfl fun e w ρ (hM : Mem _ w) E => ?_
            have e41 : ρ (.tmp 41) = .pointer (some ⟨b1, o1 + i * 3, none⟩) := E.d 3 _ 41 rfl rfl rfl
            exact res_ok (x_loads rfl (e41) (by kernel_rfl) (load_at (cs := [.int .u8 x.c, .int .u16 x.f, .int .u32 x.x]) rfl (hcx w hM.tail.tail.tail.tail))) (goes_still rfl rfl hM)
           · exact op2 (a := 0) rfl fun e w ρ (hM : Mem _ w) E => res_ok (x_fieldAddr (off := 1) rfl (E.o 6 _ rfl g6_6) (by kernel_rfl) rfl) (goes_still rfl rfl hM)
           · exact op2 (a := 0) rfl fun e w ρ (hM : Mem _ w) E => res_ok (x_load rfl (E.d 5 _ 43 rfl rfl rfl) (by kernel_rfl) ((hM.box 0 rfl).cell 1 rfl)) (goes_still rfl rfl hM)
           · exact op2 (a := 0) rfl fun e w ρ (hM : Mem _ w) E => res_ok (x_move rfl (E.o 7 _ rfl g7_6)) (goes_still rfl rfl hM)
           ·
            refine op2 (a := 0) rfl fun e w ρ (hM : Mem _ w) E => ?_
            have e44 : ρ (.tmp 44) = .slice al2 b.cmd.legs.length cl2 := E.d 6 _ 44 rfl rfl rfl
            have e45 : ρ (.tmp 45) = .int .i64 (i : Int) := E.d 7 _ 45 rfl rfl rfl
            exact res_ok (x_idx (n := 3) (i := i) rfl (show _ = Value.slice (some ⟨b2, o2, none⟩) (b.cmd.legs.length) cl2 from by rw [← ha2]; exact e44) (e45) (by kernel_rfl) (by omega) rfl) (goes_still rfl rfl hM)
           ·
            refine op2 (a := 0) rfl fun e w ρ (hM : Mem _ w) E => ?_
            have e46 : ρ (.tmp 46) = .pointer (some ⟨b2, o2 + i * 3, none⟩) := E.d 8 _ 46 rfl rfl rfl
            exact res_ok (x_loads rfl (e46) (by kernel_rfl) (load_at (cs := [.int .u8 y.c, .int .u16 y.f, .int .u32 y.x]) rfl (hcy w hM.tail.tail.tail.tail))) (goes_still rfl rfl hM)
           · exact op2 (a := 0) rfl fun e w ρ (hM : Mem _ w) E => res_ok (x_neA rfl (E.d 4 _ 42 rfl rfl rfl) (E.d 9 _ 47 rfl rfl rfl) (by kernel_rfl) (eq_leg x y w) rfl) (goes_still rfl rfl hM)
          ·
           intro e a7 w7 hz7 hd hG hO hM
           have hd7 := hd.trans hd6
           have g2_7 := (hO 2 rfl).trans g2_6
           have g3_7 := (hO 3 rfl).trans g3_6
           have g5_7 := (hO 5 rfl).trans g5_6
           have g6_7 := (hO 6 rfl).trans g6_6
           have g7_7 := (hO 7 rfl).trans g7_6
           have g31_7 := (hO 31 rfl).trans g31_6
           have g32_7 := (hO 32 rfl).trans g32_6
           have g33_7 := (hO 33 rfl).trans g33_6
           have g34_7 := (hO 34 rfl).trans g34_6
           have g35_7 := (hO 35 rfl).trans g35_6
           have g38_7 : a7.tmps[38]? = some (.pointer (some ⟨b2_6, 1, none⟩)) := hG 0 _ 38 rfl rfl
           have g39_7 : a7.tmps[39]? = some (.slice al1 a.cmd.legs.length cl1) := hG 1 _ 39 rfl rfl
           have g40_7 : a7.tmps[40]? = some (.int .i64 (i : Int)) := hG 2 _ 40 rfl rfl
           have g41_7 : a7.tmps[41]? = some (.pointer (some ⟨b1, o1 + i * 3, none⟩)) := hG 3 _ 41 rfl rfl
           have g42_7 : a7.tmps[42]? = some (.agg #[.int .u8 x.c, .int .u16 x.f, .int .u32 x.x]) := hG 4 _ 42 rfl rfl
           have g43_7 : a7.tmps[43]? = some (.pointer (some ⟨b2_7, 1, none⟩)) := hG 5 _ 43 rfl rfl
           have g44_7 : a7.tmps[44]? = some (.slice al2 b.cmd.legs.length cl2) := hG 6 _ 44 rfl rfl
           have g45_7 : a7.tmps[45]? = some (.int .i64 (i : Int)) := hG 7 _ 45 rfl rfl
           have g46_7 : a7.tmps[46]? = some (.pointer (some ⟨b2, o2 + i * 3, none⟩)) := hG 8 _ 46 rfl rfl
           have g47_7 : a7.tmps[47]? = some (.agg #[.int .u8 y.c, .int .u16 y.f, .int .u32 y.x]) := hG 9 _ 47 rfl rfl
           have g48_7 : a7.tmps[48]? = some (.bool (!legB x y)) := hG 10 _ 48 rfl rfl
           have hM7 : Mem (boxC b2_7 #[.string b.cmd.name, .slice al2 b.cmd.legs.length cl2, .int .i64 b.cmd.fare, .slice at2 b.cmd.taxes.length ct2, .int .i64 b.cmd.penalty] :: boxC b2_6 #[.string a.cmd.name, .slice al1 a.cmd.legs.length cl1, .int .i64 a.cmd.fare, .slice at1 a.cmd.taxes.length ct1, .int .i64 a.cmd.penalty] :: boxC b1_1 (recCells b (.slice al2 b.cmd.legs.length cl2) (.slice at2 b.cmd.taxes.length ct2)) :: boxC b1_0 (recCells a (.slice al1 a.cmd.legs.length cl1) (.slice at1 a.cmd.taxes.length ct1)) :: R) w7 := hM
           clear hM hG hO hd
           clear hz6 hd6 hM6 g2_6 g3_6 g5_6 g6_6 g7_6 g31_6 g32_6 g33_6 g34_6 g35_6
           refine then_n ?_
           cases hc4 : !legB x y
           ·
            refine cond_f (g48_7.trans (by rw [hc4])) ?_
            have hnb := hc4
            refine wp_skip ?_
            refine blk_n ?_
            refine then_n ?_
            refine region_seq 150 (fun zz e => (#[.int .i64 (i : Int), .int .i64 ((i + 1 : Nat) : Int), .int .i64 ((i + 1 : Nat) : Int)] : Array Value).getD zz undef) (fun k e w => Mem (List.getD [boxC b2_7 #[.string b.cmd.name, .slice al2 b.cmd.legs.length cl2, .int .i64 b.cmd.fare, .slice at2 b.cmd.taxes.length ct2, .int .i64 b.cmd.penalty] :: boxC b2_6 #[.string a.cmd.name, .slice al1 a.cmd.legs.length cl1, .int .i64 a.cmd.fare, .slice at1 a.cmd.taxes.length ct1, .int .i64 a.cmd.penalty] :: boxC b1_1 (recCells b (.slice al2 b.cmd.legs.length cl2) (.slice at2 b.cmd.taxes.length ct2)) :: boxC b1_0 (recCells a (.slice al1 a.cmd.legs.length cl1) (.slice at1 a.cmd.taxes.length ct1)) :: R] k []) w) (fun _ => (0, undef)) [] [0, 0, 0] (fun i t => (i == 0 && t == 7)) hz7 (by kernel_rfl) (by kernel_rfl) (by kernel_rfl) ?_ (show Mem _ _ from hM7) ?_ ?_
            · exact ⟨fun _ _ _ => rfl, fun _ _ _ => rfl, fun _ _ _ => rfl, trivial⟩
            ·
             refine ⟨?_, ?_, ?_, trivial⟩
             · exact op2 (a := 0) rfl fun e w ρ (hM : Mem _ w) E => res_ok (x_move rfl (E.o 7 _ rfl g7_7)) (goes_still rfl rfl hM)
             · exact op2 (a := 0) rfl fun e w ρ (hM : Mem _ w) E => res_ok (x_add rfl (E.d 0 _ 36 rfl rfl rfl) (E.c _) ((wr_i64 (by omega)).trans (by omega))) (goes_still rfl rfl hM)
             · exact op2 (a := 0) rfl fun e w ρ (hM : Mem _ w) E => res_ok (x_assign rfl (E.d 1 _ 37 rfl rfl rfl)) (goes_still rfl rfl hM)
            ·
             intro e a8 w8 hz8 hd hG hO hM
             have hd8 := hd.trans hd7
             have g2_8 := (hO 2 rfl).trans g2_7
             have g3_8 := (hO 3 rfl).trans g3_7
             have g5_8 := (hO 5 rfl).trans g5_7
             have g6_8 := (hO 6 rfl).trans g6_7
             have g7_8 : a8.tmps[7]? = some (.int .i64 ((i + 1 : Nat) : Int)) := hG 2 _ 7 rfl rfl
             have g31_8 := (hO 31 rfl).trans g31_7
             have g32_8 := (hO 32 rfl).trans g32_7
             have g33_8 := (hO 33 rfl).trans g33_7
             have g34_8 := (hO 34 rfl).trans g34_7
             have g35_8 := (hO 35 rfl).trans g35_7
             have g36_8 : a8.tmps[36]? = some (.int .i64 (i : Int)) := hG 0 _ 36 rfl rfl
             have g37_8 : a8.tmps[37]? = some (.int .i64 ((i + 1 : Nat) : Int)) := hG 1 _ 37 rfl rfl
             have g38_8 := (hO 38 rfl).trans g38_7
             have g39_8 := (hO 39 rfl).trans g39_7
             have g40_8 := (hO 40 rfl).trans g40_7
             have g41_8 := (hO 41 rfl).trans g41_7
             have g42_8 := (hO 42 rfl).trans g42_7
             have g43_8 := (hO 43 rfl).trans g43_7
             have g44_8 := (hO 44 rfl).trans g44_7
             have g45_8 := (hO 45 rfl).trans g45_7
             have g46_8 := (hO 46 rfl).trans g46_7
             have g47_8 := (hO 47 rfl).trans g47_7
             have g48_8 := (hO 48 rfl).trans g48_7
             have hM8 : Mem (boxC b2_7 #[.string b.cmd.name, .slice al2 b.cmd.legs.length cl2, .int .i64 b.cmd.fare, .slice at2 b.cmd.taxes.length ct2, .int .i64 b.cmd.penalty] :: boxC b2_6 #[.string a.cmd.name, .slice al1 a.cmd.legs.length cl1, .int .i64 a.cmd.fare, .slice at1 a.cmd.taxes.length ct1, .int .i64 a.cmd.penalty] :: boxC b1_1 (recCells b (.slice al2 b.cmd.legs.length cl2) (.slice at2 b.cmd.taxes.length ct2)) :: boxC b1_0 (recCells a (.slice al1 a.cmd.legs.length cl1) (.slice at1 a.cmd.taxes.length ct1)) :: R) w8 := hM
             clear hM hG hO hd
             clear hz7 hd7 hM7 g2_7 g3_7 g5_7 g6_7 g7_7 g31_7 g32_7 g33_7 g34_7 g35_7 g38_7 g39_7 g40_7 g41_7 g42_7 g43_7 g44_7 g45_7 g46_7 g47_7 g48_7
             refine then_n ?_
             exact ⟨i + 1, by omega, ⟨hz8, hd8, g2_8, g3_8, g5_8, g6_8, (by have h := g7_8; exact h.trans (by congr 2 <;> first | rfl | omega)), (hM8), (by show i + 1 ≤ _; omega), (by rw [← hp, listB_step hx hy, show legB x y = true from by simpa using hnb, Bool.true_and])⟩⟩
           ·
            refine cond_t (g48_7.trans (by rw [hc4])) ?_
            refine wp_seq ?_
            refine region_seq 150 (fun zz e => (#[.bool false] : Array Value).getD zz undef) (fun k e w => Mem (List.getD [boxC b2_7 #[.string b.cmd.name, .slice al2 b.cmd.legs.length cl2, .int .i64 b.cmd.fare, .slice at2 b.cmd.taxes.length ct2, .int .i64 b.cmd.penalty] :: boxC b2_6 #[.string a.cmd.name, .slice al1 a.cmd.legs.length cl1, .int .i64 a.cmd.fare, .slice at1 a.cmd.taxes.length ct1, .int .i64 a.cmd.penalty] :: boxC b1_1 (recCells b (.slice al2 b.cmd.legs.length cl2) (.slice at2 b.cmd.taxes.length ct2)) :: boxC b1_0 (recCells a (.slice al1 a.cmd.legs.length cl1) (.slice at1 a.cmd.taxes.length ct1)) :: R] k []) w) (fun _ => (0, undef)) [] [0] (fun _ _ => false) hz7 (by kernel_rfl) (by kernel_rfl) (by kernel_rfl) ?_ (show Mem _ _ from hM7) ?_ ?_
            · exact ⟨fun _ _ _ => rfl, trivial⟩
            ·
             refine ⟨?_, trivial⟩
             · exact op2 (a := 0) rfl fun e w ρ (hM : Mem _ w) E => res_ok (x_assign rfl (E.c _)) (goes_still rfl rfl hM)
            ·
             intro e a9 w9 hz9 hd hG hO hM
             have hd9 := hd.trans hd7
             have g2_9 := (hO 2 rfl).trans g2_7
             have g3_9 := (hO 3 rfl).trans g3_7
             have g4_9 : a9.tmps[4]? = some (.bool false) := hG 0 _ 4 rfl rfl
             have g5_9 := (hO 5 rfl).trans g5_7
             have g6_9 := (hO 6 rfl).trans g6_7
             have g7_9 := (hO 7 rfl).trans g7_7
             have g31_9 := (hO 31 rfl).trans g31_7
             have g32_9 := (hO 32 rfl).trans g32_7
             have g33_9 := (hO 33 rfl).trans g33_7
             have g34_9 := (hO 34 rfl).trans g34_7
             have g35_9 := (hO 35 rfl).trans g35_7
             have g38_9 := (hO 38 rfl).trans g38_7
             have g39_9 := (hO 39 rfl).trans g39_7
             have g40_9 := (hO 40 rfl).trans g40_7
             have g41_9 := (hO 41 rfl).trans g41_7
             have g42_9 := (hO 42 rfl).trans g42_7
             have g43_9 := (hO 43 rfl).trans g43_7
             have g44_9 := (hO 44 rfl).trans g44_7
             have g45_9 := (hO 45 rfl).trans g45_7
             have g46_9 := (hO 46 rfl).trans g46_7
             have g47_9 := (hO 47 rfl).trans g47_7
             have g48_9 := (hO 48 rfl).trans g48_7
             have hM9 : Mem (boxC b2_7 #[.string b.cmd.name, .slice al2 b.cmd.legs.length cl2, .int .i64 b.cmd.fare, .slice at2 b.cmd.taxes.length ct2, .int .i64 b.cmd.penalty] :: boxC b2_6 #[.string a.cmd.name, .slice al1 a.cmd.legs.length cl1, .int .i64 a.cmd.fare, .slice at1 a.cmd.taxes.length ct1, .int .i64 a.cmd.penalty] :: boxC b1_1 (recCells b (.slice al2 b.cmd.legs.length cl2) (.slice at2 b.cmd.taxes.length ct2)) :: boxC b1_0 (recCells a (.slice al1 a.cmd.legs.length cl1) (.slice at1 a.cmd.taxes.length ct1)) :: R) w9 := hM
             clear hM hG hO hd
             clear hz7 hd7 hM7 g2_7 g3_7 g5_7 g6_7 g7_7 g31_7 g32_7 g33_7 g34_7 g35_7 g38_7 g39_7 g40_7 g41_7 g42_7 g43_7 g44_7 g45_7 g46_7 g47_7 g48_7
             refine then_n ?_
             refine wp_ret ?_
             refine blk_r ?_
             refine then_r ?_
             refine then_r ?_
             refine blk_r ?_
             refine then_r ?_
             refine ret_1 Try.results14 hd9 g4_9 ?_
             have hb : legB x y = false := by simpa using hc4
             exact ⟨by unfold sameW; rw [← hp, listB_step hx hy, hb, Bool.false_and, Bool.false_and], hM9.tail.tail.tail.tail⟩
         ·
          refine cond_f (g35_6.trans (by rw [decide_eq_false hic])) ?_
          refine wp_exit ?_
          refine then_x ?_
          refine then_x ?_
          refine blk_x ?_
          refine then_n ?_
          refine wp_seq ?_
          refine wp_seq ?_
          refine region_seq 150 (fun zz e => (#[.int .i64 0] : Array Value).getD zz undef) (fun k e w => Mem (List.getD [boxC b2_7 #[.string b.cmd.name, .slice al2 b.cmd.legs.length cl2, .int .i64 b.cmd.fare, .slice at2 b.cmd.taxes.length ct2, .int .i64 b.cmd.penalty] :: boxC b2_6 #[.string a.cmd.name, .slice al1 a.cmd.legs.length cl1, .int .i64 a.cmd.fare, .slice at1 a.cmd.taxes.length ct1, .int .i64 a.cmd.penalty] :: boxC b1_1 (recCells b (.slice al2 b.cmd.legs.length cl2) (.slice at2 b.cmd.taxes.length ct2)) :: boxC b1_0 (recCells a (.slice al1 a.cmd.legs.length cl1) (.slice at1 a.cmd.taxes.length ct1)) :: R] k []) w) (fun _ => (0, undef)) [] [0] (fun _ _ => false) hz6 (by kernel_rfl) (by kernel_rfl) (by kernel_rfl) ?_ (show Mem _ _ from hM6) ?_ ?_
          · exact ⟨fun _ _ _ => rfl, trivial⟩
          ·
           refine ⟨?_, trivial⟩
           · exact op2 (a := 0) rfl fun e w ρ (hM : Mem _ w) E => res_ok (x_assign rfl (E.c _)) (goes_still rfl rfl hM)
          ·
           intro e a10 w10 hz10 hd hG hO hM
           have hd10 := hd.trans hd6
           have g2_10 := (hO 2 rfl).trans g2_6
           have g3_10 := (hO 3 rfl).trans g3_6
           have g5_10 := (hO 5 rfl).trans g5_6
           have g6_10 := (hO 6 rfl).trans g6_6
           have g8_10 : a10.tmps[8]? = some (.int .i64 0) := hG 0 _ 8 rfl rfl
           have hM10 : Mem (boxC b2_7 #[.string b.cmd.name, .slice al2 b.cmd.legs.length cl2, .int .i64 b.cmd.fare, .slice at2 b.cmd.taxes.length ct2, .int .i64 b.cmd.penalty] :: boxC b2_6 #[.string a.cmd.name, .slice al1 a.cmd.legs.length cl1, .int .i64 a.cmd.fare, .slice at1 a.cmd.taxes.length ct1, .int .i64 a.cmd.penalty] :: boxC b1_1 (recCells b (.slice al2 b.cmd.legs.length cl2) (.slice at2 b.cmd.taxes.length ct2)) :: boxC b1_0 (recCells a (.slice al1 a.cmd.legs.length cl1) (.slice at1 a.cmd.taxes.length ct1)) :: R) w10 := hM
           clear hM hG hO hd
           clear hz6 hd6 hM6 g2_6 g3_6 g5_6 g6_6 g7_6 g31_6 g32_6 g33_6 g34_6 g35_6
           refine then_n ?_
           refine wp_block ?_
           have hll : listB legB a.cmd.legs b.cmd.legs = true := by rw [← hp, listB_end (by omega) (by omega)]
           refine loopx (X := Nat) (fun i aa ww => aa.tmps.size = 150 ∧ aa.defers = [] ∧ aa.tmps[2]? = some (.pointer (some ⟨b1_0, 0, none⟩)) ∧ aa.tmps[3]? = some (.pointer (some ⟨b1_1, 0, none⟩)) ∧ aa.tmps[5]? = some (.pointer (some ⟨b2_6, 0, none⟩)) ∧ aa.tmps[6]? = some (.pointer (some ⟨b2_7, 0, none⟩)) ∧ aa.tmps[8]? = some (.int .i64 (i : Int)) ∧ Mem (boxC b2_7 #[.string b.cmd.name, .slice al2 b.cmd.legs.length cl2, .int .i64 b.cmd.fare, .slice at2 b.cmd.taxes.length ct2, .int .i64 b.cmd.penalty] :: boxC b2_6 #[.string a.cmd.name, .slice al1 a.cmd.legs.length cl1, .int .i64 a.cmd.fare, .slice at1 a.cmd.taxes.length ct1, .int .i64 a.cmd.penalty] :: boxC b1_1 (recCells b (.slice al2 b.cmd.legs.length cl2) (.slice at2 b.cmd.taxes.length ct2)) :: boxC b1_0 (recCells a (.slice al1 a.cmd.legs.length cl1) (.slice at1 a.cmd.taxes.length ct1)) :: R) ww ∧ i ≤ a.cmd.taxes.length ∧ listB taxB (a.cmd.taxes.drop i) (b.cmd.taxes.drop i) = listB taxB a.cmd.taxes b.cmd.taxes) (fun i => a.cmd.taxes.length - i) (0) ?_ ?_
           ·
            exact ⟨hz10, hd10, g2_10, g3_10, g5_10, g6_10, (by have h := g8_10; exact h.trans (by congr 2 <;> first | rfl | omega)), (hM10), (Nat.zero_le _), (rfl)⟩
           ·
            clear hz10 hd10 hM10 g2_10 g3_10 g5_10 g6_10 g8_10
            rintro i a11 w11 hI
            obtain ⟨hz11, hd11, g2_11, g3_11, g5_11, g6_11, g8_11, hM11, hj, hpt⟩ := hI
            refine wp_seq ?_
            refine wp_seq ?_
            refine region_seq 150 (fun zz e => (#[.int .i64 (i : Int), .pointer (some ⟨b2_6, 3, none⟩), .slice at1 a.cmd.taxes.length ct1, .int .i64 (a.cmd.taxes.length : Int), .bool (decide ((i : Int) < (a.cmd.taxes.length : Int)))] : Array Value).getD zz undef) (fun k e w => Mem (List.getD [boxC b2_7 #[.string b.cmd.name, .slice al2 b.cmd.legs.length cl2, .int .i64 b.cmd.fare, .slice at2 b.cmd.taxes.length ct2, .int .i64 b.cmd.penalty] :: boxC b2_6 #[.string a.cmd.name, .slice al1 a.cmd.legs.length cl1, .int .i64 a.cmd.fare, .slice at1 a.cmd.taxes.length ct1, .int .i64 a.cmd.penalty] :: boxC b1_1 (recCells b (.slice al2 b.cmd.legs.length cl2) (.slice at2 b.cmd.taxes.length ct2)) :: boxC b1_0 (recCells a (.slice al1 a.cmd.legs.length cl1) (.slice at1 a.cmd.taxes.length ct1)) :: R] k []) w) (fun _ => (0, undef)) [] [0, 0, 0, 0, 0] (fun _ _ => false) hz11 (by kernel_rfl) (by kernel_rfl) (by kernel_rfl) ?_ (show Mem _ _ from hM11) ?_ ?_
            · exact ⟨fun _ _ _ => rfl, fun _ _ _ => rfl, fun _ _ _ => rfl, fun _ _ _ => rfl, fun _ _ _ => rfl, trivial⟩
            ·
             refine ⟨?_, ?_, ?_, ?_, ?_, trivial⟩
             · exact op2 (a := 0) rfl fun e w ρ (hM : Mem _ w) E => res_ok (x_move rfl (E.o 8 _ rfl g8_11)) (goes_still rfl rfl hM)
             · exact op2 (a := 0) rfl fun e w ρ (hM : Mem _ w) E => res_ok (x_fieldAddr (off := 3) rfl (E.o 5 _ rfl g5_11) (by kernel_rfl) rfl) (goes_still rfl rfl hM)
             · exact op2 (a := 0) rfl fun e w ρ (hM : Mem _ w) E => res_ok (x_load rfl (E.d 1 _ 50 rfl rfl rfl) (by kernel_rfl) ((hM.box 1 rfl).cell 3 rfl)) (goes_still rfl rfl hM)
             ·
              refine op2 (a := 0) rfl fun e w ρ (hM : Mem _ w) E => ?_
              have e51 : ρ (.tmp 51) = .slice at1 a.cmd.taxes.length ct1 := E.d 2 _ 51 rfl rfl rfl
              exact res_ok (x_len (n := 2) rfl rfl rfl rfl (e51) (by kernel_rfl)) (goes_still rfl rfl hM)
             · exact op2 (a := 0) rfl fun e w ρ (hM : Mem _ w) E => res_ok (x_lss rfl (E.d 0 _ 49 rfl rfl rfl) (E.d 3 _ 52 rfl rfl rfl) rfl) (goes_still rfl rfl hM)
            ·
             intro e a12 w12 hz12 hd hG hO hM
             have hd12 := hd.trans hd11
             have g2_12 := (hO 2 rfl).trans g2_11
             have g3_12 := (hO 3 rfl).trans g3_11
             have g5_12 := (hO 5 rfl).trans g5_11
             have g6_12 := (hO 6 rfl).trans g6_11
             have g8_12 := (hO 8 rfl).trans g8_11
             have g49_12 : a12.tmps[49]? = some (.int .i64 (i : Int)) := hG 0 _ 49 rfl rfl
             have g50_12 : a12.tmps[50]? = some (.pointer (some ⟨b2_6, 3, none⟩)) := hG 1 _ 50 rfl rfl
             have g51_12 : a12.tmps[51]? = some (.slice at1 a.cmd.taxes.length ct1) := hG 2 _ 51 rfl rfl
             have g52_12 : a12.tmps[52]? = some (.int .i64 (a.cmd.taxes.length : Int)) := hG 3 _ 52 rfl rfl
             have g53_12 : a12.tmps[53]? = some (.bool (decide ((i : Int) < (a.cmd.taxes.length : Int)))) := hG 4 _ 53 rfl rfl
             have hM12 : Mem (boxC b2_7 #[.string b.cmd.name, .slice al2 b.cmd.legs.length cl2, .int .i64 b.cmd.fare, .slice at2 b.cmd.taxes.length ct2, .int .i64 b.cmd.penalty] :: boxC b2_6 #[.string a.cmd.name, .slice al1 a.cmd.legs.length cl1, .int .i64 a.cmd.fare, .slice at1 a.cmd.taxes.length ct1, .int .i64 a.cmd.penalty] :: boxC b1_1 (recCells b (.slice al2 b.cmd.legs.length cl2) (.slice at2 b.cmd.taxes.length ct2)) :: boxC b1_0 (recCells a (.slice al1 a.cmd.legs.length cl1) (.slice at1 a.cmd.taxes.length ct1)) :: R) w12 := hM
             clear hM hG hO hd
             clear hz11 hd11 hM11 g2_11 g3_11 g5_11 g6_11 g8_11
             refine then_n ?_
             by_cases hjc : (i : Int) < (a.cmd.taxes.length : Int)
             ·
              refine cond_t (g53_12.trans (by rw [decide_eq_true hjc])) ?_
              obtain ⟨x, hx⟩ := list_at (show i < a.cmd.taxes.length by omega)
              obtain ⟨y, hy⟩ := list_at (show i < b.cmd.taxes.length by omega)
              obtain ⟨b1, o1, ha1, hcx⟩ := ht1.elem (show ∀ x, (taxE x).length = 2 from fun _ => rfl) (by decide) hx hM12.tail.tail.tail.tail
              obtain ⟨b2, o2, ha2, hcy⟩ := ht2.elem (show ∀ x, (taxE x).length = 2 from fun _ => rfl) (by decide) hy hM12.tail.tail.tail.tail
              refine wp_skip ?_
              refine then_n ?_
              refine wp_seq ?_
              refine wp_block ?_
              refine wp_seq ?_
              refine region_draw 150 (fun zz e => (#[.pointer (some ⟨b2_6, 3, none⟩), .slice at1 a.cmd.taxes.length ct1, .int .i64 (i : Int), .pointer (some ⟨b1, o1 + i * 2, none⟩), .agg #[.string x.code, .int .i64 x.amt], .pointer (some ⟨b2_7, 3, none⟩), .slice at2 b.cmd.taxes.length ct2, .int .i64 (i : Int), .pointer (some ⟨b2, o2 + i * 2, none⟩), .agg #[.string y.code, .int .i64 y.amt], .bool (!taxB x y)] : Array Value).getD zz undef) (fun k e w => Mem (List.getD [boxC b2_7 #[.string b.cmd.name, .slice al2 b.cmd.legs.length cl2, .int .i64 b.cmd.fare, .slice at2 b.cmd.taxes.length ct2, .int .i64 b.cmd.penalty] :: boxC b2_6 #[.string a.cmd.name, .slice al1 a.cmd.legs.length cl1, .int .i64 a.cmd.fare, .slice at1 a.cmd.taxes.length ct1, .int .i64 a.cmd.penalty] :: boxC b1_1 (recCells b (.slice al2 b.cmd.legs.length cl2) (.slice at2 b.cmd.taxes.length ct2)) :: boxC b1_0 (recCells a (.slice al1 a.cmd.legs.length cl1) (.slice at1 a.cmd.taxes.length ct1)) :: R] k []) w) (fun _ => (0, undef)) [] [] [0, 0, 0, 0, 0, 0, 0, 0, 0, 0, 0] [0, 0, 0, 0, 0, 0, 0, 0, 0, 0, 0] (fun _ _ => false) hz12 (by kernel_rfl) (by kernel_rfl) (by kernel_rfl) (by kernel_rfl) (by kernel_rfl) ?_ (show Mem _ _ from hM12.drew) ?_ ?_
              · exact ⟨fun _ _ _ => rfl, fun _ _ _ => rfl, fun _ _ _ => rfl, fun _ _ _ => rfl, fun _ _ _ => rfl, fun _ _ _ => rfl, fun _ _ _ => rfl, fun _ _ _ => rfl, fun _ _ _ => rfl, fun _ _ _ => rfl, fun _ _ _ => rfl, trivial⟩
              ·
               refine ⟨?_, ?_, ?_, ?_, ?_, ?_, ?_, ?_, ?_, ?_, ?_, trivial⟩
               · exact op2 (a := 0) rfl fun e w ρ (hM : Mem _ w) E => res_ok (x_fieldAddr (off := 3) rfl (E.o 5 _ rfl g5_12) (by kernel_rfl) rfl) (goes_still rfl rfl hM)
               · exact op2 (a := 0) rfl fun e w ρ (hM : Mem _ w) E => res_ok (x_load rfl (E.d 0 _ 56 rfl rfl rfl) (by kernel_rfl) ((hM.box 1 rfl).cell 3 rfl)) (goes_still rfl rfl hM)
               · exact op2 (a := 0) rfl fun e w ρ (hM : Mem _ w) E => res_ok (x_move rfl (E.o 8 _ rfl g8_12)) (goes_still rfl rfl hM)
               ·
                refine op2 (a := 0) rfl fun e w ρ (hM : Mem _ w) E => ?_
                have e57 : ρ (.tmp 57) = .slice at1 a.cmd.taxes.length ct1 := E.d 1 _ 57 rfl rfl rfl
                have e58 : ρ (.tmp 58) = .int .i64 (i : Int) := E.d 2 _ 58 rfl rfl rfl
                exact res_ok (x_idx (n := 2) (i := i) rfl (show _ = Value.slice (some ⟨b1, o1, none⟩) (a.cmd.taxes.length) ct1 from by rw [← ha1]; exact e57) (e58) (by kernel_rfl) (by omega) rfl) (goes_still rfl rfl hM)
               ·
                refine op2 (a := 0) rfl fun e w ρ (hM : Mem _ w) E => ?_
                have e59 : ρ (.tmp 59) = .pointer (some ⟨b1, o1 + i * 2, none⟩) := E.d 3 _ 59 rfl rfl rfl
                exact res_ok (x_loads rfl (e59) (by kernel_rfl) (load_at (cs := [.string x.code, .int .i64 x.amt]) rfl (hcx w hM.tail.tail.tail.tail))) (goes_still rfl rfl hM)
               · exact op2 (a := 0) rfl fun e w ρ (hM : Mem _ w) E => res_ok (x_fieldAddr (off := 3) rfl (E.o 6 _ rfl g6_12) (by kernel_rfl) rfl) (goes_still rfl rfl hM)
               · exact op2 (a := 0) rfl fun e w ρ (hM : Mem _ w) E => res_ok (x_load rfl (E.d 5 _ 61 rfl rfl rfl) (by kernel_rfl) ((hM.box 0 rfl).cell 3 rfl)) (goes_still rfl rfl hM)
               · exact op2 (a := 0) rfl fun e w ρ (hM : Mem _ w) E => res_ok (x_move rfl (E.o 8 _ rfl g8_12)) (goes_still rfl rfl hM)
               ·
                refine op2 (a := 0) rfl fun e w ρ (hM : Mem _ w) E => ?_
                have e62 : ρ (.tmp 62) = .slice at2 b.cmd.taxes.length ct2 := E.d 6 _ 62 rfl rfl rfl
                have e63 : ρ (.tmp 63) = .int .i64 (i : Int) := E.d 7 _ 63 rfl rfl rfl
                exact res_ok (x_idx (n := 2) (i := i) rfl (show _ = Value.slice (some ⟨b2, o2, none⟩) (b.cmd.taxes.length) ct2 from by rw [← ha2]; exact e62) (e63) (by kernel_rfl) (by omega) rfl) (goes_still rfl rfl hM)
               ·
                refine op2 (a := 0) rfl fun e w ρ (hM : Mem _ w) E => ?_
                have e64 : ρ (.tmp 64) = .pointer (some ⟨b2, o2 + i * 2, none⟩) := E.d 8 _ 64 rfl rfl rfl
                exact res_ok (x_loads rfl (e64) (by kernel_rfl) (load_at (cs := [.string y.code, .int .i64 y.amt]) rfl (hcy w hM.tail.tail.tail.tail))) (goes_still rfl rfl hM)
               · exact op2 (a := 0) rfl fun e w ρ (hM : Mem _ w) E => res_ok (x_neA rfl (E.d 4 _ 60 rfl rfl rfl) (E.d 9 _ 65 rfl rfl rfl) (by kernel_rfl) (eq_tax x y w) rfl) (goes_still rfl rfl hM)
              ·
               intro e a13 w13 hz13 hd hG hO hM
               have hd13 := hd.trans hd12
               have g2_13 := (hO 2 rfl).trans g2_12
               have g3_13 := (hO 3 rfl).trans g3_12
               have g5_13 := (hO 5 rfl).trans g5_12
               have g6_13 := (hO 6 rfl).trans g6_12
               have g8_13 := (hO 8 rfl).trans g8_12
               have g49_13 := (hO 49 rfl).trans g49_12
               have g50_13 := (hO 50 rfl).trans g50_12
               have g51_13 := (hO 51 rfl).trans g51_12
               have g52_13 := (hO 52 rfl).trans g52_12
               have g53_13 := (hO 53 rfl).trans g53_12
               have g56_13 : a13.tmps[56]? = some (.pointer (some ⟨b2_6, 3, none⟩)) := hG 0 _ 56 rfl rfl
               have g57_13 : a13.tmps[57]? = some (.slice at1 a.cmd.taxes.length ct1) := hG 1 _ 57 rfl rfl
               have g58_13 : a13.tmps[58]? = some (.int .i64 (i : Int)) := hG 2 _ 58 rfl rfl
               have g59_13 : a13.tmps[59]? = some (.pointer (some ⟨b1, o1 + i * 2, none⟩)) := hG 3 _ 59 rfl rfl
               have g60_13 : a13.tmps[60]? = some (.agg #[.string x.code, .int .i64 x.amt]) := hG 4 _ 60 rfl rfl
               have g61_13 : a13.tmps[61]? = some (.pointer (some ⟨b2_7, 3, none⟩)) := hG 5 _ 61 rfl rfl
               have g62_13 : a13.tmps[62]? = some (.slice at2 b.cmd.taxes.length ct2) := hG 6 _ 62 rfl rfl
               have g63_13 : a13.tmps[63]? = some (.int .i64 (i : Int)) := hG 7 _ 63 rfl rfl
               have g64_13 : a13.tmps[64]? = some (.pointer (some ⟨b2, o2 + i * 2, none⟩)) := hG 8 _ 64 rfl rfl
               have g65_13 : a13.tmps[65]? = some (.agg #[.string y.code, .int .i64 y.amt]) := hG 9 _ 65 rfl rfl
               have g66_13 : a13.tmps[66]? = some (.bool (!taxB x y)) := hG 10 _ 66 rfl rfl
               have hM13 : Mem (boxC b2_7 #[.string b.cmd.name, .slice al2 b.cmd.legs.length cl2, .int .i64 b.cmd.fare, .slice at2 b.cmd.taxes.length ct2, .int .i64 b.cmd.penalty] :: boxC b2_6 #[.string a.cmd.name, .slice al1 a.cmd.legs.length cl1, .int .i64 a.cmd.fare, .slice at1 a.cmd.taxes.length ct1, .int .i64 a.cmd.penalty] :: boxC b1_1 (recCells b (.slice al2 b.cmd.legs.length cl2) (.slice at2 b.cmd.taxes.length ct2)) :: boxC b1_0 (recCells a (.slice al1 a.cmd.legs.length cl1) (.slice at1 a.cmd.taxes.length ct1)) :: R) w13 := hM
               clear hM hG hO hd
               clear hz12 hd12 hM12 g2_12 g3_12 g5_12 g6_12 g8_12 g49_12 g50_12 g51_12 g52_12 g53_12
               refine then_n ?_
               cases hc6 : !taxB x y
               ·
                refine cond_f (g66_13.trans (by rw [hc6])) ?_
                have hnb := hc6
                refine wp_skip ?_
                refine blk_n ?_
                refine then_n ?_
                refine region_seq 150 (fun zz e => (#[.int .i64 (i : Int), .int .i64 ((i + 1 : Nat) : Int), .int .i64 ((i + 1 : Nat) : Int)] : Array Value).getD zz undef) (fun k e w => Mem (List.getD [boxC b2_7 #[.string b.cmd.name, .slice al2 b.cmd.legs.length cl2, .int .i64 b.cmd.fare, .slice at2 b.cmd.taxes.length ct2, .int .i64 b.cmd.penalty] :: boxC b2_6 #[.string a.cmd.name, .slice al1 a.cmd.legs.length cl1, .int .i64 a.cmd.fare, .slice at1 a.cmd.taxes.length ct1, .int .i64 a.cmd.penalty] :: boxC b1_1 (recCells b (.slice al2 b.cmd.legs.length cl2) (.slice at2 b.cmd.taxes.length ct2)) :: boxC b1_0 (recCells a (.slice al1 a.cmd.legs.length cl1) (.slice at1 a.cmd.taxes.length ct1)) :: R] k []) w) (fun _ => (0, undef)) [] [0, 0, 0] (fun i t => (i == 0 && t == 8)) hz13 (by kernel_rfl) (by kernel_rfl) (by kernel_rfl) ?_ (show Mem _ _ from hM13) ?_ ?_
                · exact ⟨fun _ _ _ => rfl, fun _ _ _ => rfl, fun _ _ _ => rfl, trivial⟩
                ·
                 refine ⟨?_, ?_, ?_, trivial⟩
                 · exact op2 (a := 0) rfl fun e w ρ (hM : Mem _ w) E => res_ok (x_move rfl (E.o 8 _ rfl g8_13)) (goes_still rfl rfl hM)
                 · exact op2 (a := 0) rfl fun e w ρ (hM : Mem _ w) E => res_ok (x_add rfl (E.d 0 _ 54 rfl rfl rfl) (E.c _) ((wr_i64 (by omega)).trans (by omega))) (goes_still rfl rfl hM)
                 · exact op2 (a := 0) rfl fun e w ρ (hM : Mem _ w) E => res_ok (x_assign rfl (E.d 1 _ 55 rfl rfl rfl)) (goes_still rfl rfl hM)
                ·
                 intro e a14 w14 hz14 hd hG hO hM
                 have hd14 := hd.trans hd13
                 have g2_14 := (hO 2 rfl).trans g2_13
                 have g3_14 := (hO 3 rfl).trans g3_13
                 have g5_14 := (hO 5 rfl).trans g5_13
                 have g6_14 := (hO 6 rfl).trans g6_13
                 have g8_14 : a14.tmps[8]? = some (.int .i64 ((i + 1 : Nat) : Int)) := hG 2 _ 8 rfl rfl
                 have g49_14 := (hO 49 rfl).trans g49_13
                 have g50_14 := (hO 50 rfl).trans g50_13
                 have g51_14 := (hO 51 rfl).trans g51_13
                 have g52_14 := (hO 52 rfl).trans g52_13
                 have g53_14 := (hO 53 rfl).trans g53_13
                 have g54_14 : a14.tmps[54]? = some (.int .i64 (i : Int)) := hG 0 _ 54 rfl rfl
                 have g55_14 : a14.tmps[55]? = some (.int .i64 ((i + 1 : Nat) : Int)) := hG 1 _ 55 rfl rfl
                 have g56_14 := (hO 56 rfl).trans g56_13
                 have g57_14 := (hO 57 rfl).trans g57_13
                 have g58_14 := (hO 58 rfl).trans g58_13
                 have g59_14 := (hO 59 rfl).trans g59_13
                 have g60_14 := (hO 60 rfl).trans g60_13
                 have g61_14 := (hO 61 rfl).trans g61_13
                 have g62_14 := (hO 62 rfl).trans g62_13
                 have g63_14 := (hO 63 rfl).trans g63_13
                 have g64_14 := (hO 64 rfl).trans g64_13
                 have g65_14 := (hO 65 rfl).trans g65_13
                 have g66_14 := (hO 66 rfl).trans g66_13
                 have hM14 : Mem (boxC b2_7 #[.string b.cmd.name, .slice al2 b.cmd.legs.length cl2, .int .i64 b.cmd.fare, .slice at2 b.cmd.taxes.length ct2, .int .i64 b.cmd.penalty] :: boxC b2_6 #[.string a.cmd.name, .slice al1 a.cmd.legs.length cl1, .int .i64 a.cmd.fare, .slice at1 a.cmd.taxes.length ct1, .int .i64 a.cmd.penalty] :: boxC b1_1 (recCells b (.slice al2 b.cmd.legs.length cl2) (.slice at2 b.cmd.taxes.length ct2)) :: boxC b1_0 (recCells a (.slice al1 a.cmd.legs.length cl1) (.slice at1 a.cmd.taxes.length ct1)) :: R) w14 := hM
                 clear hM hG hO hd
                 clear hz13 hd13 hM13 g2_13 g3_13 g5_13 g6_13 g8_13 g49_13 g50_13 g51_13 g52_13 g53_13 g56_13 g57_13 g58_13 g59_13 g60_13 g61_13 g62_13 g63_13 g64_13 g65_13 g66_13
                 refine then_n ?_
                 exact ⟨i + 1, by omega, ⟨hz14, hd14, g2_14, g3_14, g5_14, g6_14, (by have h := g8_14; exact h.trans (by congr 2 <;> first | rfl | omega)), (hM14), (by show i + 1 ≤ _; omega), (by rw [← hpt, listB_step hx hy, show taxB x y = true from by simpa using hnb, Bool.true_and])⟩⟩
               ·
                refine cond_t (g66_13.trans (by rw [hc6])) ?_
                refine wp_seq ?_
                refine region_seq 150 (fun zz e => (#[.bool false] : Array Value).getD zz undef) (fun k e w => Mem (List.getD [boxC b2_7 #[.string b.cmd.name, .slice al2 b.cmd.legs.length cl2, .int .i64 b.cmd.fare, .slice at2 b.cmd.taxes.length ct2, .int .i64 b.cmd.penalty] :: boxC b2_6 #[.string a.cmd.name, .slice al1 a.cmd.legs.length cl1, .int .i64 a.cmd.fare, .slice at1 a.cmd.taxes.length ct1, .int .i64 a.cmd.penalty] :: boxC b1_1 (recCells b (.slice al2 b.cmd.legs.length cl2) (.slice at2 b.cmd.taxes.length ct2)) :: boxC b1_0 (recCells a (.slice al1 a.cmd.legs.length cl1) (.slice at1 a.cmd.taxes.length ct1)) :: R] k []) w) (fun _ => (0, undef)) [] [0] (fun _ _ => false) hz13 (by kernel_rfl) (by kernel_rfl) (by kernel_rfl) ?_ (show Mem _ _ from hM13) ?_ ?_
                · exact ⟨fun _ _ _ => rfl, trivial⟩
                ·
                 refine ⟨?_, trivial⟩
                 · exact op2 (a := 0) rfl fun e w ρ (hM : Mem _ w) E => res_ok (x_assign rfl (E.c _)) (goes_still rfl rfl hM)
                ·
                 intro e a15 w15 hz15 hd hG hO hM
                 have hd15 := hd.trans hd13
                 have g2_15 := (hO 2 rfl).trans g2_13
                 have g3_15 := (hO 3 rfl).trans g3_13
                 have g4_15 : a15.tmps[4]? = some (.bool false) := hG 0 _ 4 rfl rfl
                 have g5_15 := (hO 5 rfl).trans g5_13
                 have g6_15 := (hO 6 rfl).trans g6_13
                 have g8_15 := (hO 8 rfl).trans g8_13
                 have g49_15 := (hO 49 rfl).trans g49_13
                 have g50_15 := (hO 50 rfl).trans g50_13
                 have g51_15 := (hO 51 rfl).trans g51_13
                 have g52_15 := (hO 52 rfl).trans g52_13
                 have g53_15 := (hO 53 rfl).trans g53_13
                 have g56_15 := (hO 56 rfl).trans g56_13
                 have g57_15 := (hO 57 rfl).trans g57_13
                 have g58_15 := (hO 58 rfl).trans g58_13
                 have g59_15 := (hO 59 rfl).trans g59_13
                 have g60_15 := (hO 60 rfl).trans g60_13
                 have g61_15 := (hO 61 rfl).trans g61_13
                 have g62_15 := (hO 62 rfl).trans g62_13
                 have g63_15 := (hO 63 rfl).trans g63_13
                 have g64_15 := (hO 64 rfl).trans g64_13
                 have g65_15 := (hO 65 rfl).trans g65_13
                 have g66_15 := (hO 66 rfl).trans g66_13
                 have hM15 : Mem (boxC b2_7 #[.string b.cmd.name, .slice al2 b.cmd.legs.length cl2, .int .i64 b.cmd.fare, .slice at2 b.cmd.taxes.length ct2, .int .i64 b.cmd.penalty] :: boxC b2_6 #[.string a.cmd.name, .slice al1 a.cmd.legs.length cl1, .int .i64 a.cmd.fare, .slice at1 a.cmd.taxes.length ct1, .int .i64 a.cmd.penalty] :: boxC b1_1 (recCells b (.slice al2 b.cmd.legs.length cl2) (.slice at2 b.cmd.taxes.length ct2)) :: boxC b1_0 (recCells a (.slice al1 a.cmd.legs.length cl1) (.slice at1 a.cmd.taxes.length ct1)) :: R) w15 := hM
                 clear hM hG hO hd
                 clear hz13 hd13 hM13 g2_13 g3_13 g5_13 g6_13 g8_13 g49_13 g50_13 g51_13 g52_13 g53_13 g56_13 g57_13 g58_13 g59_13 g60_13 g61_13 g62_13 g63_13 g64_13 g65_13 g66_13
                 refine then_n ?_
                 refine wp_ret ?_
                 refine blk_r ?_
                 refine then_r ?_
                 refine then_r ?_
                 refine blk_r ?_
                 refine then_r ?_
                 refine ret_1 Try.results14 hd15 g4_15 ?_
                 have hb : taxB x y = false := by simpa using hc6
                 exact ⟨by unfold sameW; rw [← hpt, listB_step hx hy, hb, Bool.false_and, Bool.false_and, Bool.and_false], hM15.tail.tail.tail.tail⟩
             ·
              refine cond_f (g53_12.trans (by rw [decide_eq_false hjc])) ?_
              refine wp_exit ?_
              refine then_x ?_
              refine then_x ?_
              refine blk_x ?_
              refine then_n ?_
              refine wp_seq ?_
              obtain ⟨z14_5, hz14_5⟩ : ∃ z : Bool, z = (decide (a.kind = b.kind)) := ⟨_, rfl⟩
              obtain ⟨z14_12, hz14_12⟩ : ∃ z : Bool, z = (z14_5 && (decide (a.frm = b.frm))) := ⟨_, rfl⟩
              obtain ⟨z14_19, hz14_19⟩ : ∃ z : Bool, z = (z14_12 && (decide (a.number = b.number))) := ⟨_, rfl⟩
              obtain ⟨z14_26, hz14_26⟩ : ∃ z : Bool, z = (z14_19 && (msgB a.msg b.msg)) := ⟨_, rfl⟩
              obtain ⟨z14_35, hz14_35⟩ : ∃ z : Bool, z = (z14_26 && (decide (a.cmd.kind = b.cmd.kind))) := ⟨_, rfl⟩
              obtain ⟨z14_44, hz14_44⟩ : ∃ z : Bool, z = (z14_35 && (tickB a.cmd.tick b.cmd.tick)) := ⟨_, rfl⟩
              obtain ⟨z14_53, hz14_53⟩ : ∃ z : Bool, z = (z14_44 && (decide (a.cmd.at_ = b.cmd.at_))) := ⟨_, rfl⟩
              obtain ⟨z14_62, hz14_62⟩ : ∃ z : Bool, z = (z14_53 && (decide (a.cmd.amount = b.cmd.amount))) := ⟨_, rfl⟩
              obtain ⟨z14_69, hz14_69⟩ : ∃ z : Bool, z = (z14_62 && (decide (a.cmd.name = b.cmd.name))) := ⟨_, rfl⟩
              obtain ⟨z14_76, hz14_76⟩ : ∃ z : Bool, z = (z14_69 && (decide (a.cmd.fare = b.cmd.fare))) := ⟨_, rfl⟩
              refine region_seq 150 (fun zz e => (#[.pointer (some ⟨b1_0, 0, none⟩), .int .u8 a.kind, .pointer (some ⟨b1_1, 0, none⟩), .int .u8 b.kind, .bool (decide (a.kind = b.kind)), .bool z14_5, (gd z14_5 true (.pointer (some ⟨b1_0, 11, none⟩))), (gd z14_5 true (.int .u8 a.frm)), (gd z14_5 true (.pointer (some ⟨b1_1, 11, none⟩))), (gd z14_5 true (.int .u8 b.frm)), (gd z14_5 true (.bool (decide (a.frm = b.frm)))), .bool (z14_5 && (decide (a.frm = b.frm))), .bool z14_12, (gd z14_12 true (.pointer (some ⟨b1_0, 12, none⟩))), (gd z14_12 true (.int .u64 a.number)), (gd z14_12 true (.pointer (some ⟨b1_1, 12, none⟩))), (gd z14_12 true (.int .u64 b.number)), (gd z14_12 true (.bool (decide (a.number = b.number)))), .bool (z14_12 && (decide (a.number = b.number))), .bool z14_19, (gd z14_19 true (.pointer (some ⟨b1_0, 13, none⟩))), (gd z14_19 true (.agg #[.int .u8 a.msg.kind, .int .u8 a.msg.tick.c, .int .u64 a.msg.tick.r, .int .u8 a.msg.at_, .int .u8 a.msg.leg.c, .int .u16 a.msg.leg.f, .int .u32 a.msg.leg.x, .int .i64 a.msg.value, .int .u8 a.msg.status, .int .u32 a.msg.nonce, .int .i64 a.msg.amount, .int .i64 a.msg.code])), (gd z14_19 true (.pointer (some ⟨b1_1, 13, none⟩))), (gd z14_19 true (.agg #[.int .u8 b.msg.kind, .int .u8 b.msg.tick.c, .int .u64 b.msg.tick.r, .int .u8 b.msg.at_, .int .u8 b.msg.leg.c, .int .u16 b.msg.leg.f, .int .u32 b.msg.leg.x, .int .i64 b.msg.value, .int .u8 b.msg.status, .int .u32 b.msg.nonce, .int .i64 b.msg.amount, .int .i64 b.msg.code])), (gd z14_19 true (.bool (msgB a.msg b.msg))), .bool (z14_19 && (msgB a.msg b.msg)), .bool z14_26, (gd z14_26 true (.pointer (some ⟨b1_0, 1, none⟩))), (gd z14_26 true (.pointer (some ⟨b1_0, 1, none⟩))), (gd z14_26 true (.int .u8 a.cmd.kind)), (gd z14_26 true (.pointer (some ⟨b1_1, 1, none⟩))), (gd z14_26 true (.pointer (some ⟨b1_1, 1, none⟩))), (gd z14_26 true (.int .u8 b.cmd.kind)), (gd z14_26 true (.bool (decide (a.cmd.kind = b.cmd.kind)))), .bool (z14_26 && (decide (a.cmd.kind = b.cmd.kind))), .bool z14_35, (gd z14_35 true (.pointer (some ⟨b1_0, 1, none⟩))), (gd z14_35 true (.pointer (some ⟨b1_0, 2, none⟩))), (gd z14_35 true (.agg #[.int .u8 a.cmd.tick.c, .int .u64 a.cmd.tick.r])), (gd z14_35 true (.pointer (some ⟨b1_1, 1, none⟩))), (gd z14_35 true (.pointer (some ⟨b1_1, 2, none⟩))), (gd z14_35 true (.agg #[.int .u8 b.cmd.tick.c, .int .u64 b.cmd.tick.r])), (gd z14_35 true (.bool (tickB a.cmd.tick b.cmd.tick))), .bool (z14_35 && (tickB a.cmd.tick b.cmd.tick)), .bool z14_44, (gd z14_44 true (.pointer (some ⟨b1_0, 1, none⟩))), (gd z14_44 true (.pointer (some ⟨b1_0, 4, none⟩))), (gd z14_44 true (.int .u8 a.cmd.at_)), (gd z14_44 true (.pointer (some ⟨b1_1, 1, none⟩))), (gd z14_44 true (.pointer (some ⟨b1_1, 4, none⟩))), (gd z14_44 true (.int .u8 b.cmd.at_)), (gd z14_44 true (.bool (decide (a.cmd.at_ = b.cmd.at_)))), .bool (z14_44 && (decide (a.cmd.at_ = b.cmd.at_))), .bool z14_53, (gd z14_53 true (.pointer (some ⟨b1_0, 1, none⟩))), (gd z14_53 true (.pointer (some ⟨b1_0, 10, none⟩))), (gd z14_53 true (.int .i64 a.cmd.amount)), (gd z14_53 true (.pointer (some ⟨b1_1, 1, none⟩))), (gd z14_53 true (.pointer (some ⟨b1_1, 10, none⟩))), (gd z14_53 true (.int .i64 b.cmd.amount)), (gd z14_53 true (.bool (decide (a.cmd.amount = b.cmd.amount)))), .bool (z14_53 && (decide (a.cmd.amount = b.cmd.amount))), .bool z14_62, (gd z14_62 true (.pointer (some ⟨b2_6, 0, none⟩))), (gd z14_62 true (.string a.cmd.name)), (gd z14_62 true (.pointer (some ⟨b2_7, 0, none⟩))), (gd z14_62 true (.string b.cmd.name)), (gd z14_62 true (.bool (decide (a.cmd.name = b.cmd.name)))), .bool (z14_62 && (decide (a.cmd.name = b.cmd.name))), .bool z14_69, (gd z14_69 true (.pointer (some ⟨b2_6, 2, none⟩))), (gd z14_69 true (.int .i64 a.cmd.fare)), (gd z14_69 true (.pointer (some ⟨b2_7, 2, none⟩))), (gd z14_69 true (.int .i64 b.cmd.fare)), (gd z14_69 true (.bool (decide (a.cmd.fare = b.cmd.fare)))), .bool (z14_69 && (decide (a.cmd.fare = b.cmd.fare))), .bool z14_76, (gd z14_76 true (.pointer (some ⟨b2_6, 4, none⟩))), (gd z14_76 true (.int .i64 a.cmd.penalty)), (gd z14_76 true (.pointer (some ⟨b2_7, 4, none⟩))), (gd z14_76 true (.int .i64 b.cmd.penalty)), (gd z14_76 true (.bool (decide (a.cmd.penalty = b.cmd.penalty)))), .bool (z14_76 && (decide (a.cmd.penalty = b.cmd.penalty))), .bool (z14_76 && (decide (a.cmd.penalty = b.cmd.penalty)))] : Array Value).getD zz undef) (fun k e w => Mem (List.getD [boxC b2_7 #[.string b.cmd.name, .slice al2 b.cmd.legs.length cl2, .int .i64 b.cmd.fare, .slice at2 b.cmd.taxes.length ct2, .int .i64 b.cmd.penalty] :: boxC b2_6 #[.string a.cmd.name, .slice al1 a.cmd.legs.length cl1, .int .i64 a.cmd.fare, .slice at1 a.cmd.taxes.length ct1, .int .i64 a.cmd.penalty] :: boxC b1_1 (recCells b (.slice al2 b.cmd.legs.length cl2) (.slice at2 b.cmd.taxes.length ct2)) :: boxC b1_0 (recCells a (.slice al1 a.cmd.legs.length cl1) (.slice at1 a.cmd.taxes.length ct1)) :: R] k []) w) (fun _ => (0, undef)) [] [0, 0, 0, 0, 0, 0, 0, 0, 0, 0, 0, 0, 0, 0, 0, 0, 0, 0, 0, 0, 0, 0, 0, 0, 0, 0, 0, 0, 0, 0, 0, 0, 0, 0, 0, 0, 0, 0, 0, 0, 0, 0, 0, 0, 0, 0, 0, 0, 0, 0, 0, 0, 0, 0, 0, 0, 0, 0, 0, 0, 0, 0, 0, 0, 0, 0, 0, 0, 0, 0, 0, 0, 0, 0, 0, 0, 0, 0, 0, 0, 0, 0, 0, 0] (fun _ _ => false) hz12 (by kernel_rfl) (by kernel_rfl) (by kernel_rfl) ?_ (show Mem _ _ from hM12) ?_ ?_
              · exact ⟨fun _ _ _ => rfl, fun _ _ _ => rfl, fun _ _ _ => rfl, fun _ _ _ => rfl, fun _ _ _ => rfl, fun _ _ _ => rfl, fun _ _ _ => rfl, fun _ _ _ => rfl, fun _ _ _ => rfl, fun _ _ _ => rfl, fun _ _ _ => rfl, fun _ _ _ => rfl, fun _ _ _ => rfl, fun _ _ _ => rfl, fun _ _ _ => rfl, fun _ _ _ => rfl, fun _ _ _ => rfl, fun _ _ _ => rfl, fun _ _ _ => rfl, fun _ _ _ => rfl, fun _ _ _ => rfl, fun _ _ _ => rfl, fun _ _ _ => rfl, fun _ _ _ => rfl, fun _ _ _ => rfl, fun _ _ _ => rfl, fun _ _ _ => rfl, fun _ _ _ => rfl, fun _ _ _ => rfl, fun _ _ _ => rfl, fun _ _ _ => rfl, fun _ _ _ => rfl, fun _ _ _ => rfl, fun _ _ _ => rfl, fun _ _ _ => rfl, fun _ _ _ => rfl, fun _ _ _ => rfl, fun _ _ _ => rfl, fun _ _ _ => rfl, fun _ _ _ => rfl, fun _ _ _ => rfl, fun _ _ _ => rfl, fun _ _ _ => rfl, fun _ _ _ => rfl, fun _ _ _ => rfl, fun _ _ _ => rfl, fun _ _ _ => rfl, fun _ _ _ => rfl, fun _ _ _ => rfl, fun _ _ _ => rfl, fun _ _ _ => rfl, fun _ _ _ => rfl, fun _ _ _ => rfl, fun _ _ _ => rfl, fun _ _ _ => rfl, fun _ _ _ => rfl, fun _ _ _ => rfl, fun _ _ _ => rfl, fun _ _ _ => rfl, fun _ _ _ => rfl, fun _ _ _ => rfl, fun _ _ _ => rfl, fun _ _ _ => rfl, fun _ _ _ => rfl, fun _ _ _ => rfl, fun _ _ _ => rfl, fun _ _ _ => rfl, fun _ _ _ => rfl, fun _ _ _ => rfl, fun _ _ _ => rfl, fun _ _ _ => rfl, fun _ _ _ => rfl, fun _ _ _ => rfl, fun _ _ _ => rfl, fun _ _ _ => rfl, fun _ _ _ => rfl, fun _ _ _ => rfl, fun _ _ _ => rfl, fun _ _ _ => rfl, fun _ _ _ => rfl, fun _ _ _ => rfl, fun _ _ _ => rfl, fun _ _ _ => rfl, fun _ _ _ => rfl, trivial⟩
              ·
               refine ⟨?_, ?_, ?_, ?_, ?_, ?_, ?_, ?_, ?_, ?_, ?_, ?_, ?_, ?_, ?_, ?_, ?_, ?_, ?_, ?_, ?_, ?_, ?_, ?_, ?_, ?_, ?_, ?_, ?_, ?_, ?_, ?_, ?_, ?_, ?_, ?_, ?_, ?_, ?_, ?_, ?_, ?_, ?_, ?_, ?_, ?_, ?_, ?_, ?_, ?_, ?_, ?_, ?_, ?_, ?_, ?_, ?_, ?_, ?_, ?_, ?_, ?_, ?_, ?_, ?_, ?_, ?_, ?_, ?_, ?_, ?_, ?_, ?_, ?_, ?_, ?_, ?_, ?_, ?_, ?_, ?_, ?_, ?_, ?_, trivial⟩
               · exact op2 (a := 0) rfl fun e w ρ (hM : Mem _ w) E => res_ok (x_fieldAddr (off := 0) rfl (E.o 2 _ rfl g2_12) (by kernel_rfl) rfl) (goes_still rfl rfl hM)
               · exact op2 (a := 0) rfl fun e w ρ (hM : Mem _ w) E => res_ok (x_load rfl (E.d 0 _ 67 rfl rfl rfl) (by kernel_rfl) ((hM.box 3 rfl).cell 0 rfl)) (goes_still rfl rfl hM)
               · exact op2 (a := 0) rfl fun e w ρ (hM : Mem _ w) E => res_ok (x_fieldAddr (off := 0) rfl (E.o 3 _ rfl g3_12) (by kernel_rfl) rfl) (goes_still rfl rfl hM)
               · exact op2 (a := 0) rfl fun e w ρ (hM : Mem _ w) E => res_ok (x_load rfl (E.d 2 _ 69 rfl rfl rfl) (by kernel_rfl) ((hM.box 2 rfl).cell 0 rfl)) (goes_still rfl rfl hM)
               · exact op2 (a := 0) rfl fun e w ρ (hM : Mem _ w) E => res_ok (x_eql rfl (E.d 1 _ 68 rfl rfl rfl) (E.d 3 _ 70 rfl rfl rfl) rfl) (goes_still rfl rfl hM)
               · exact op2 (a := 0) rfl fun e w ρ (hM : Mem _ w) E => res_ok (x_move rfl (E.d 4 _ 71 rfl rfl rfl)) (goes_still rfl (congrArg Value.bool hz14_5.symm) hM)
               · exact op3 (a := 0) z14_5 rfl (fun _ => rfl) rfl (fun hC _ => (gd_no hC).symm) fun hC e w ρ (hM : Mem _ w) E => res_ok (x_fieldAddr (off := 11) rfl (E.o 2 _ rfl g2_12) (by kernel_rfl) rfl) (goes_still rfl (gd_yes hC).symm hM)
               · exact op3 (a := 0) z14_5 rfl (fun _ => rfl) rfl (fun hC _ => (gd_no hC).symm) fun hC e w ρ (hM : Mem _ w) E => res_ok (x_load rfl ((E.d 6 _ 73 rfl rfl rfl).trans (gd_yes hC)) (by kernel_rfl) ((hM.box 3 rfl).cell 11 rfl)) (goes_still rfl (gd_yes hC).symm hM)
               · exact op3 (a := 0) z14_5 rfl (fun _ => rfl) rfl (fun hC _ => (gd_no hC).symm) fun hC e w ρ (hM : Mem _ w) E => res_ok (x_fieldAddr (off := 11) rfl (E.o 3 _ rfl g3_12) (by kernel_rfl) rfl) (goes_still rfl (gd_yes hC).symm hM)
               · exact op3 (a := 0) z14_5 rfl (fun _ => rfl) rfl (fun hC _ => (gd_no hC).symm) fun hC e w ρ (hM : Mem _ w) E => res_ok (x_load rfl ((E.d 8 _ 75 rfl rfl rfl).trans (gd_yes hC)) (by kernel_rfl) ((hM.box 2 rfl).cell 11 rfl)) (goes_still rfl (gd_yes hC).symm hM)
               · exact op3 (a := 0) z14_5 rfl (fun _ => rfl) rfl (fun hC _ => (gd_no hC).symm) fun hC e w ρ (hM : Mem _ w) E => res_ok (x_eql rfl ((E.d 7 _ 74 rfl rfl rfl).trans (gd_yes hC)) ((E.d 9 _ 76 rfl rfl rfl).trans (gd_yes hC)) rfl) (goes_still rfl (gd_yes hC).symm hM)
               · exact op2 (a := 0) rfl fun e w ρ (hM : Mem _ w) E => res_ok (x_pickAnd rfl (E.d 5 _ 72 rfl rfl rfl) (fun hC => ((E.d 10 _ 77 rfl rfl rfl).trans (gd_t hC))) (E.c _)) (goes_still rfl rfl hM)
               · exact op2 (a := 0) rfl fun e w ρ (hM : Mem _ w) E => res_ok (x_move rfl (E.d 11 _ 78 rfl rfl rfl)) (goes_still rfl (congrArg Value.bool hz14_12.symm) hM)
               · exact op3 (a := 0) z14_12 rfl (fun _ => rfl) rfl (fun hC _ => (gd_no hC).symm) fun hC e w ρ (hM : Mem _ w) E => res_ok (x_fieldAddr (off := 12) rfl (E.o 2 _ rfl g2_12) (by kernel_rfl) rfl) (goes_still rfl (gd_yes hC).symm hM)
               · exact op3 (a := 0) z14_12 rfl (fun _ => rfl) rfl (fun hC _ => (gd_no hC).symm) fun hC e w ρ (hM : Mem _ w) E => res_ok (x_load rfl ((E.d 13 _ 80 rfl rfl rfl).trans (gd_yes hC)) (by kernel_rfl) ((hM.box 3 rfl).cell 12 rfl)) (goes_still rfl (gd_yes hC).symm hM)
               · exact op3 (a := 0) z14_12 rfl (fun _ => rfl) rfl (fun hC _ => (gd_no hC).symm) fun hC e w ρ (hM : Mem _ w) E => res_ok (x_fieldAddr (off := 12) rfl (E.o 3 _ rfl g3_12) (by kernel_rfl) rfl) (goes_still rfl (gd_yes hC).symm hM)
               · exact op3 (a := 0) z14_12 rfl (fun _ => rfl) rfl (fun hC _ => (gd_no hC).symm) fun hC e w ρ (hM : Mem _ w) E => res_ok (x_load rfl ((E.d 15 _ 82 rfl rfl rfl).trans (gd_yes hC)) (by kernel_rfl) ((hM.box 2 rfl).cell 12 rfl)) (goes_still rfl (gd_yes hC).symm hM)
               · exact op3 (a := 0) z14_12 rfl (fun _ => rfl) rfl (fun hC _ => (gd_no hC).symm) fun hC e w ρ (hM : Mem _ w) E => res_ok (x_eql rfl ((E.d 14 _ 81 rfl rfl rfl).trans (gd_yes hC)) ((E.d 16 _ 83 rfl rfl rfl).trans (gd_yes hC)) rfl) (goes_still rfl (gd_yes hC).symm hM)
               · exact op2 (a := 0) rfl fun e w ρ (hM : Mem _ w) E => res_ok (x_pickAnd rfl (E.d 12 _ 79 rfl rfl rfl) (fun hC => ((E.d 17 _ 84 rfl rfl rfl).trans (gd_t hC))) (E.c _)) (goes_still rfl rfl hM)
               · exact op2 (a := 0) rfl fun e w ρ (hM : Mem _ w) E => res_ok (x_move rfl (E.d 18 _ 85 rfl rfl rfl)) (goes_still rfl (congrArg Value.bool hz14_19.symm) hM)
               · exact op3 (a := 0) z14_19 rfl (fun _ => rfl) rfl (fun hC _ => (gd_no hC).symm) fun hC e w ρ (hM : Mem _ w) E => res_ok (x_fieldAddr (off := 13) rfl (E.o 2 _ rfl g2_12) (by kernel_rfl) rfl) (goes_still rfl (gd_yes hC).symm hM)
               · exact op3 (a := 0) z14_19 rfl (fun _ => rfl) rfl (fun hC _ => (gd_no hC).symm) fun hC e w ρ (hM : Mem _ w) E => res_ok (x_loads rfl ((E.d 20 _ 87 rfl rfl rfl).trans (gd_yes hC)) (by kernel_rfl) (load_part (hM.box 3 rfl) [.int .u8 a.msg.kind, .int .u8 a.msg.tick.c, .int .u64 a.msg.tick.r, .int .u8 a.msg.at_, .int .u8 a.msg.leg.c, .int .u16 a.msg.leg.f, .int .u32 a.msg.leg.x, .int .i64 a.msg.value, .int .u8 a.msg.status, .int .u32 a.msg.nonce, .int .i64 a.msg.amount, .int .i64 a.msg.code] rfl (Nat.le_of_ble_eq_true rfl) rfl)) (goes_still rfl (gd_yes hC).symm hM)
               · exact op3 (a := 0) z14_19 rfl (fun _ => rfl) rfl (fun hC _ => (gd_no hC).symm) fun hC e w ρ (hM : Mem _ w) E => res_ok (x_fieldAddr (off := 13) rfl (E.o 3 _ rfl g3_12) (by kernel_rfl) rfl) (goes_still rfl (gd_yes hC).symm hM)
               · exact op3 (a := 0) z14_19 rfl (fun _ => rfl) rfl (fun hC _ => (gd_no hC).symm) fun hC e w ρ (hM : Mem _ w) E => res_ok (x_loads rfl ((E.d 22 _ 89 rfl rfl rfl).trans (gd_yes hC)) (by kernel_rfl) (load_part (hM.box 2 rfl) [.int .u8 b.msg.kind, .int .u8 b.msg.tick.c, .int .u64 b.msg.tick.r, .int .u8 b.msg.at_, .int .u8 b.msg.leg.c, .int .u16 b.msg.leg.f, .int .u32 b.msg.leg.x, .int .i64 b.msg.value, .int .u8 b.msg.status, .int .u32 b.msg.nonce, .int .i64 b.msg.amount, .int .i64 b.msg.code] rfl (Nat.le_of_ble_eq_true rfl) rfl)) (goes_still rfl (gd_yes hC).symm hM)
               · exact op3 (a := 0) z14_19 rfl (fun _ => rfl) rfl (fun hC _ => (gd_no hC).symm) fun hC e w ρ (hM : Mem _ w) E => res_ok (x_eqA rfl ((E.d 21 _ 88 rfl rfl rfl).trans (gd_yes hC)) ((E.d 23 _ 90 rfl rfl rfl).trans (gd_yes hC)) (by kernel_rfl) (eq_msg a.msg b.msg w)) (goes_still rfl (gd_yes hC).symm hM)
               · exact op2 (a := 0) rfl fun e w ρ (hM : Mem _ w) E => res_ok (x_pickAnd rfl (E.d 19 _ 86 rfl rfl rfl) (fun hC => ((E.d 24 _ 91 rfl rfl rfl).trans (gd_t hC))) (E.c _)) (goes_still rfl rfl hM)
               · exact op2 (a := 0) rfl fun e w ρ (hM : Mem _ w) E => res_ok (x_move rfl (E.d 25 _ 92 rfl rfl rfl)) (goes_still rfl (congrArg Value.bool hz14_26.symm) hM)
               · exact op3 (a := 0) z14_26 rfl (fun _ => rfl) rfl (fun hC _ => (gd_no hC).symm) fun hC e w ρ (hM : Mem _ w) E => res_ok (x_fieldAddr (off := 1) rfl (E.o 2 _ rfl g2_12) (by kernel_rfl) rfl) (goes_still rfl (gd_yes hC).symm hM)
               · exact op3 (a := 0) z14_26 rfl (fun _ => rfl) rfl (fun hC _ => (gd_no hC).symm) fun hC e w ρ (hM : Mem _ w) E => res_ok (x_fieldAddr (off := 0) rfl ((E.d 27 _ 94 rfl rfl rfl).trans (gd_yes hC)) (by kernel_rfl) rfl) (goes_still rfl (gd_yes hC).symm hM)
               · exact op3 (a := 0) z14_26 rfl (fun _ => rfl) rfl (fun hC _ => (gd_no hC).symm) fun hC e w ρ (hM : Mem _ w) E => res_ok (x_load rfl ((E.d 28 _ 95 rfl rfl rfl).trans (gd_yes hC)) (by kernel_rfl) ((hM.box 3 rfl).cell 1 rfl)) (goes_still rfl (gd_yes hC).symm hM)
               · exact op3 (a := 0) z14_26 rfl (fun _ => rfl) rfl (fun hC _ => (gd_no hC).symm) fun hC e w ρ (hM : Mem _ w) E => res_ok (x_fieldAddr (off := 1) rfl (E.o 3 _ rfl g3_12) (by kernel_rfl) rfl) (goes_still rfl (gd_yes hC).symm hM)
               · exact op3 (a := 0) z14_26 rfl (fun _ => rfl) rfl (fun hC _ => (gd_no hC).symm) fun hC e w ρ (hM : Mem _ w) E => res_ok (x_fieldAddr (off := 0) rfl ((E.d 30 _ 97 rfl rfl rfl).trans (gd_yes hC)) (by kernel_rfl) rfl) (goes_still rfl (gd_yes hC).symm hM)
               · exact op3 (a := 0) z14_26 rfl (fun _ => rfl) rfl (fun hC _ => (gd_no hC).symm) fun hC e w ρ (hM : Mem _ w) E => res_ok (x_load rfl ((E.d 31 _ 98 rfl rfl rfl).trans (gd_yes hC)) (by kernel_rfl) ((hM.box 2 rfl).cell 1 rfl)) (goes_still rfl (gd_yes hC).symm hM)
               · exact op3 (a := 0) z14_26 rfl (fun _ => rfl) rfl (fun hC _ => (gd_no hC).symm) fun hC e w ρ (hM : Mem _ w) E => res_ok (x_eql rfl ((E.d 29 _ 96 rfl rfl rfl).trans (gd_yes hC)) ((E.d 32 _ 99 rfl rfl rfl).trans (gd_yes hC)) rfl) (goes_still rfl (gd_yes hC).symm hM)
               · exact op2 (a := 0) rfl fun e w ρ (hM : Mem _ w) E => res_ok (x_pickAnd rfl (E.d 26 _ 93 rfl rfl rfl) (fun hC => ((E.d 33 _ 100 rfl rfl rfl).trans (gd_t hC))) (E.c _)) (goes_still rfl rfl hM)
               · exact op2 (a := 0) rfl fun e w ρ (hM : Mem _ w) E => res_ok (x_move rfl (E.d 34 _ 101 rfl rfl rfl)) (goes_still rfl (congrArg Value.bool hz14_35.symm) hM)
               · exact op3 (a := 0) z14_35 rfl (fun _ => rfl) rfl (fun hC _ => (gd_no hC).symm) fun hC e w ρ (hM : Mem _ w) E => res_ok (x_fieldAddr (off := 1) rfl (E.o 2 _ rfl g2_12) (by kernel_rfl) rfl) (goes_still rfl (gd_yes hC).symm hM)
               · exact op3 (a := 0) z14_35 rfl (fun _ => rfl) rfl (fun hC _ => (gd_no hC).symm) fun hC e w ρ (hM : Mem _ w) E => res_ok (x_fieldAddr (off := 1) rfl ((E.d 36 _ 103 rfl rfl rfl).trans (gd_yes hC)) (by kernel_rfl) rfl) (goes_still rfl (gd_yes hC).symm hM)
               · exact op3 (a := 0) z14_35 rfl (fun _ => rfl) rfl (fun hC _ => (gd_no hC).symm) fun hC e w ρ (hM : Mem _ w) E => res_ok (x_loads rfl ((E.d 37 _ 104 rfl rfl rfl).trans (gd_yes hC)) (by kernel_rfl) (load_part (hM.box 3 rfl) [.int .u8 a.cmd.tick.c, .int .u64 a.cmd.tick.r] rfl (Nat.le_of_ble_eq_true rfl) rfl)) (goes_still rfl (gd_yes hC).symm hM)
               · exact op3 (a := 0) z14_35 rfl (fun _ => rfl) rfl (fun hC _ => (gd_no hC).symm) fun hC e w ρ (hM : Mem _ w) E => res_ok (x_fieldAddr (off := 1) rfl (E.o 3 _ rfl g3_12) (by kernel_rfl) rfl) (goes_still rfl (gd_yes hC).symm hM)
               · exact op3 (a := 0) z14_35 rfl (fun _ => rfl) rfl (fun hC _ => (gd_no hC).symm) fun hC e w ρ (hM : Mem _ w) E => res_ok (x_fieldAddr (off := 1) rfl ((E.d 39 _ 106 rfl rfl rfl).trans (gd_yes hC)) (by kernel_rfl) rfl) (goes_still rfl (gd_yes hC).symm hM)
               · exact op3 (a := 0) z14_35 rfl (fun _ => rfl) rfl (fun hC _ => (gd_no hC).symm) fun hC e w ρ (hM : Mem _ w) E => res_ok (x_loads rfl ((E.d 40 _ 107 rfl rfl rfl).trans (gd_yes hC)) (by kernel_rfl) (load_part (hM.box 2 rfl) [.int .u8 b.cmd.tick.c, .int .u64 b.cmd.tick.r] rfl (Nat.le_of_ble_eq_true rfl) rfl)) (goes_still rfl (gd_yes hC).symm hM)
               · exact op3 (a := 0) z14_35 rfl (fun _ => rfl) rfl (fun hC _ => (gd_no hC).symm) fun hC e w ρ (hM : Mem _ w) E => res_ok (x_eqA rfl ((E.d 38 _ 105 rfl rfl rfl).trans (gd_yes hC)) ((E.d 41 _ 108 rfl rfl rfl).trans (gd_yes hC)) (by kernel_rfl) (eq_tick a.cmd.tick b.cmd.tick w)) (goes_still rfl (gd_yes hC).symm hM)
               · exact op2 (a := 0) rfl fun e w ρ (hM : Mem _ w) E => res_ok (x_pickAnd rfl (E.d 35 _ 102 rfl rfl rfl) (fun hC => ((E.d 42 _ 109 rfl rfl rfl).trans (gd_t hC))) (E.c _)) (goes_still rfl rfl hM)
               · exact op2 (a := 0) rfl fun e w ρ (hM : Mem _ w) E => res_ok (x_move rfl (E.d 43 _ 110 rfl rfl rfl)) (goes_still rfl (congrArg Value.bool hz14_44.symm) hM)
               · exact op3 (a := 0) z14_44 rfl (fun _ => rfl) rfl (fun hC _ => (gd_no hC).symm) fun hC e w ρ (hM : Mem _ w) E => res_ok (x_fieldAddr (off := 1) rfl (E.o 2 _ rfl g2_12) (by kernel_rfl) rfl) (goes_still rfl (gd_yes hC).symm hM)
               · exact op3 (a := 0) z14_44 rfl (fun _ => rfl) rfl (fun hC _ => (gd_no hC).symm) fun hC e w ρ (hM : Mem _ w) E => res_ok (x_fieldAddr (off := 3) rfl ((E.d 45 _ 112 rfl rfl rfl).trans (gd_yes hC)) (by kernel_rfl) rfl) (goes_still rfl (gd_yes hC).symm hM)
               · exact op3 (a := 0) z14_44 rfl (fun _ => rfl) rfl (fun hC _ => (gd_no hC).symm) fun hC e w ρ (hM : Mem _ w) E => res_ok (x_load rfl ((E.d 46 _ 113 rfl rfl rfl).trans (gd_yes hC)) (by kernel_rfl) ((hM.box 3 rfl).cell 4 rfl)) (goes_still rfl (gd_yes hC).symm hM)
               · exact op3 (a := 0) z14_44 rfl (fun _ => rfl) rfl (fun hC _ => (gd_no hC).symm) fun hC e w ρ (hM : Mem _ w) E => res_ok (x_fieldAddr (off := 1) rfl (E.o 3 _ rfl g3_12) (by kernel_rfl) rfl) (goes_still rfl (gd_yes hC).symm hM)
               · exact op3 (a := 0) z14_44 rfl (fun _ => rfl) rfl (fun hC _ => (gd_no hC).symm) fun hC e w ρ (hM : Mem _ w) E => res_ok (x_fieldAddr (off := 3) rfl ((E.d 48 _ 115 rfl rfl rfl).trans (gd_yes hC)) (by kernel_rfl) rfl) (goes_still rfl (gd_yes hC).symm hM)
               · exact op3 (a := 0) z14_44 rfl (fun _ => rfl) rfl (fun hC _ => (gd_no hC).symm) fun hC e w ρ (hM : Mem _ w) E => res_ok (x_load rfl ((E.d 49 _ 116 rfl rfl rfl).trans (gd_yes hC)) (by kernel_rfl) ((hM.box 2 rfl).cell 4 rfl)) (goes_still rfl (gd_yes hC).symm hM)
               · exact op3 (a := 0) z14_44 rfl (fun _ => rfl) rfl (fun hC _ => (gd_no hC).symm) fun hC e w ρ (hM : Mem _ w) E => res_ok (x_eql rfl ((E.d 47 _ 114 rfl rfl rfl).trans (gd_yes hC)) ((E.d 50 _ 117 rfl rfl rfl).trans (gd_yes hC)) rfl) (goes_still rfl (gd_yes hC).symm hM)
               · exact op2 (a := 0) rfl fun e w ρ (hM : Mem _ w) E => res_ok (x_pickAnd rfl (E.d 44 _ 111 rfl rfl rfl) (fun hC => ((E.d 51 _ 118 rfl rfl rfl).trans (gd_t hC))) (E.c _)) (goes_still rfl rfl hM)
               · exact op2 (a := 0) rfl fun e w ρ (hM : Mem _ w) E => res_ok (x_move rfl (E.d 52 _ 119 rfl rfl rfl)) (goes_still rfl (congrArg Value.bool hz14_53.symm) hM)
               · exact op3 (a := 0) z14_53 rfl (fun _ => rfl) rfl (fun hC _ => (gd_no hC).symm) fun hC e w ρ (hM : Mem _ w) E => res_ok (x_fieldAddr (off := 1) rfl (E.o 2 _ rfl g2_12) (by kernel_rfl) rfl) (goes_still rfl (gd_yes hC).symm hM)
               · exact op3 (a := 0) z14_53 rfl (fun _ => rfl) rfl (fun hC _ => (gd_no hC).symm) fun hC e w ρ (hM : Mem _ w) E => res_ok (x_fieldAddr (off := 9) rfl ((E.d 54 _ 121 rfl rfl rfl).trans (gd_yes hC)) (by kernel_rfl) rfl) (goes_still rfl (gd_yes hC).symm hM)
               · exact op3 (a := 0) z14_53 rfl (fun _ => rfl) rfl (fun hC _ => (gd_no hC).symm) fun hC e w ρ (hM : Mem _ w) E => res_ok (x_load rfl ((E.d 55 _ 122 rfl rfl rfl).trans (gd_yes hC)) (by kernel_rfl) ((hM.box 3 rfl).cell 10 rfl)) (goes_still rfl (gd_yes hC).symm hM)
               · exact op3 (a := 0) z14_53 rfl (fun _ => rfl) rfl (fun hC _ => (gd_no hC).symm) fun hC e w ρ (hM : Mem _ w) E => res_ok (x_fieldAddr (off := 1) rfl (E.o 3 _ rfl g3_12) (by kernel_rfl) rfl) (goes_still rfl (gd_yes hC).symm hM)
               · exact op3 (a := 0) z14_53 rfl (fun _ => rfl) rfl (fun hC _ => (gd_no hC).symm) fun hC e w ρ (hM : Mem _ w) E => res_ok (x_fieldAddr (off := 9) rfl ((E.d 57 _ 124 rfl rfl rfl).trans (gd_yes hC)) (by kernel_rfl) rfl) (goes_still rfl (gd_yes hC).symm hM)
               · exact op3 (a := 0) z14_53 rfl (fun _ => rfl) rfl (fun hC _ => (gd_no hC).symm) fun hC e w ρ (hM : Mem _ w) E => res_ok (x_load rfl ((E.d 58 _ 125 rfl rfl rfl).trans (gd_yes hC)) (by kernel_rfl) ((hM.box 2 rfl).cell 10 rfl)) (goes_still rfl (gd_yes hC).symm hM)
               · exact op3 (a := 0) z14_53 rfl (fun _ => rfl) rfl (fun hC _ => (gd_no hC).symm) fun hC e w ρ (hM : Mem _ w) E => res_ok (x_eql rfl ((E.d 56 _ 123 rfl rfl rfl).trans (gd_yes hC)) ((E.d 59 _ 126 rfl rfl rfl).trans (gd_yes hC)) rfl) (goes_still rfl (gd_yes hC).symm hM)
               · exact op2 (a := 0) rfl fun e w ρ (hM : Mem _ w) E => res_ok (x_pickAnd rfl (E.d 53 _ 120 rfl rfl rfl) (fun hC => ((E.d 60 _ 127 rfl rfl rfl).trans (gd_t hC))) (E.c _)) (goes_still rfl rfl hM)
               · exact op2 (a := 0) rfl fun e w ρ (hM : Mem _ w) E => res_ok (x_move rfl (E.d 61 _ 128 rfl rfl rfl)) (goes_still rfl (congrArg Value.bool hz14_62.symm) hM)
               · exact op3 (a := 0) z14_62 rfl (fun _ => rfl) rfl (fun hC _ => (gd_no hC).symm) fun hC e w ρ (hM : Mem _ w) E => res_ok (x_fieldAddr (off := 0) rfl (E.o 5 _ rfl g5_12) (by kernel_rfl) rfl) (goes_still rfl (gd_yes hC).symm hM)
               · exact op3 (a := 0) z14_62 rfl (fun _ => rfl) rfl (fun hC _ => (gd_no hC).symm) fun hC e w ρ (hM : Mem _ w) E => res_ok (x_load rfl ((E.d 63 _ 130 rfl rfl rfl).trans (gd_yes hC)) (by kernel_rfl) ((hM.box 1 rfl).cell 0 rfl)) (goes_still rfl (gd_yes hC).symm hM)
               · exact op3 (a := 0) z14_62 rfl (fun _ => rfl) rfl (fun hC _ => (gd_no hC).symm) fun hC e w ρ (hM : Mem _ w) E => res_ok (x_fieldAddr (off := 0) rfl (E.o 6 _ rfl g6_12) (by kernel_rfl) rfl) (goes_still rfl (gd_yes hC).symm hM)
               · exact op3 (a := 0) z14_62 rfl (fun _ => rfl) rfl (fun hC _ => (gd_no hC).symm) fun hC e w ρ (hM : Mem _ w) E => res_ok (x_load rfl ((E.d 65 _ 132 rfl rfl rfl).trans (gd_yes hC)) (by kernel_rfl) ((hM.box 0 rfl).cell 0 rfl)) (goes_still rfl (gd_yes hC).symm hM)
               · exact op3 (a := 0) z14_62 rfl (fun _ => rfl) rfl (fun hC _ => (gd_no hC).symm) fun hC e w ρ (hM : Mem _ w) E => res_ok (x_eqS rfl ((E.d 64 _ 131 rfl rfl rfl).trans (gd_yes hC)) ((E.d 66 _ 133 rfl rfl rfl).trans (gd_yes hC)) rfl) (goes_still rfl (gd_yes hC).symm hM)
               · exact op2 (a := 0) rfl fun e w ρ (hM : Mem _ w) E => res_ok (x_pickAnd rfl (E.d 62 _ 129 rfl rfl rfl) (fun hC => ((E.d 67 _ 134 rfl rfl rfl).trans (gd_t hC))) (E.c _)) (goes_still rfl rfl hM)
               · exact op2 (a := 0) rfl fun e w ρ (hM : Mem _ w) E => res_ok (x_move rfl (E.d 68 _ 135 rfl rfl rfl)) (goes_still rfl (congrArg Value.bool hz14_69.symm) hM)
               · exact op3 (a := 0) z14_69 rfl (fun _ => rfl) rfl (fun hC _ => (gd_no hC).symm) fun hC e w ρ (hM : Mem _ w) E => res_ok (x_fieldAddr (off := 2) rfl (E.o 5 _ rfl g5_12) (by kernel_rfl) rfl) (goes_still rfl (gd_yes hC).symm hM)
               · exact op3 (a := 0) z14_69 rfl (fun _ => rfl) rfl (fun hC _ => (gd_no hC).symm) fun hC e w ρ (hM : Mem _ w) E => res_ok (x_load rfl ((E.d 70 _ 137 rfl rfl rfl).trans (gd_yes hC)) (by kernel_rfl) ((hM.box 1 rfl).cell 2 rfl)) (goes_still rfl (gd_yes hC).symm hM)
               · exact op3 (a := 0) z14_69 rfl (fun _ => rfl) rfl (fun hC _ => (gd_no hC).symm) fun hC e w ρ (hM : Mem _ w) E => res_ok (x_fieldAddr (off := 2) rfl (E.o 6 _ rfl g6_12) (by kernel_rfl) rfl) (goes_still rfl (gd_yes hC).symm hM)
               · exact op3 (a := 0) z14_69 rfl (fun _ => rfl) rfl (fun hC _ => (gd_no hC).symm) fun hC e w ρ (hM : Mem _ w) E => res_ok (x_load rfl ((E.d 72 _ 139 rfl rfl rfl).trans (gd_yes hC)) (by kernel_rfl) ((hM.box 0 rfl).cell 2 rfl)) (goes_still rfl (gd_yes hC).symm hM)
               · exact op3 (a := 0) z14_69 rfl (fun _ => rfl) rfl (fun hC _ => (gd_no hC).symm) fun hC e w ρ (hM : Mem _ w) E => res_ok (x_eql rfl ((E.d 71 _ 138 rfl rfl rfl).trans (gd_yes hC)) ((E.d 73 _ 140 rfl rfl rfl).trans (gd_yes hC)) rfl) (goes_still rfl (gd_yes hC).symm hM)
               · exact op2 (a := 0) rfl fun e w ρ (hM : Mem _ w) E => res_ok (x_pickAnd rfl (E.d 69 _ 136 rfl rfl rfl) (fun hC => ((E.d 74 _ 141 rfl rfl rfl).trans (gd_t hC))) (E.c _)) (goes_still rfl rfl hM)
               · exact op2 (a := 0) rfl fun e w ρ (hM : Mem _ w) E => res_ok (x_move rfl (E.d 75 _ 142 rfl rfl rfl)) (goes_still rfl (congrArg Value.bool hz14_76.symm) hM)
               · exact op3 (a := 0) z14_76 rfl (fun _ => rfl) rfl (fun hC _ => (gd_no hC).symm) fun hC e w ρ (hM : Mem _ w) E => res_ok (x_fieldAddr (off := 4) rfl (E.o 5 _ rfl g5_12) (by kernel_rfl) rfl) (goes_still rfl (gd_yes hC).symm hM)
               · exact op3 (a := 0) z14_76 rfl (fun _ => rfl) rfl (fun hC _ => (gd_no hC).symm) fun hC e w ρ (hM : Mem _ w) E => res_ok (x_load rfl ((E.d 77 _ 144 rfl rfl rfl).trans (gd_yes hC)) (by kernel_rfl) ((hM.box 1 rfl).cell 4 rfl)) (goes_still rfl (gd_yes hC).symm hM)
               · exact op3 (a := 0) z14_76 rfl (fun _ => rfl) rfl (fun hC _ => (gd_no hC).symm) fun hC e w ρ (hM : Mem _ w) E => res_ok (x_fieldAddr (off := 4) rfl (E.o 6 _ rfl g6_12) (by kernel_rfl) rfl) (goes_still rfl (gd_yes hC).symm hM)
               · exact op3 (a := 0) z14_76 rfl (fun _ => rfl) rfl (fun hC _ => (gd_no hC).symm) fun hC e w ρ (hM : Mem _ w) E => res_ok (x_load rfl ((E.d 79 _ 146 rfl rfl rfl).trans (gd_yes hC)) (by kernel_rfl) ((hM.box 0 rfl).cell 4 rfl)) (goes_still rfl (gd_yes hC).symm hM)
               · exact op3 (a := 0) z14_76 rfl (fun _ => rfl) rfl (fun hC _ => (gd_no hC).symm) fun hC e w ρ (hM : Mem _ w) E => res_ok (x_eql rfl ((E.d 78 _ 145 rfl rfl rfl).trans (gd_yes hC)) ((E.d 80 _ 147 rfl rfl rfl).trans (gd_yes hC)) rfl) (goes_still rfl (gd_yes hC).symm hM)
               · exact op2 (a := 0) rfl fun e w ρ (hM : Mem _ w) E => res_ok (x_pickAnd rfl (E.d 76 _ 143 rfl rfl rfl) (fun hC => ((E.d 81 _ 148 rfl rfl rfl).trans (gd_t hC))) (E.c _)) (goes_still rfl rfl hM)
               · exact op2 (a := 0) rfl fun e w ρ (hM : Mem _ w) E => res_ok (x_assign rfl (E.d 82 _ 149 rfl rfl rfl)) (goes_still rfl rfl hM)
              ·
               intro e a16 w16 hz16 hd hG hO hM
               have hd16 := hd.trans hd12
               have g4_16 : a16.tmps[4]? = some (.bool (z14_76 && (decide (a.cmd.penalty = b.cmd.penalty)))) := hG 83 _ 4 rfl rfl
               have hM16 : Mem (boxC b2_7 #[.string b.cmd.name, .slice al2 b.cmd.legs.length cl2, .int .i64 b.cmd.fare, .slice at2 b.cmd.taxes.length ct2, .int .i64 b.cmd.penalty] :: boxC b2_6 #[.string a.cmd.name, .slice al1 a.cmd.legs.length cl1, .int .i64 a.cmd.fare, .slice at1 a.cmd.taxes.length ct1, .int .i64 a.cmd.penalty] :: boxC b1_1 (recCells b (.slice al2 b.cmd.legs.length cl2) (.slice at2 b.cmd.taxes.length ct2)) :: boxC b1_0 (recCells a (.slice al1 a.cmd.legs.length cl1) (.slice at1 a.cmd.taxes.length ct1)) :: R) w16 := hM
               clear hM hG hO hd
               clear hz12 hd12 hM12 g2_12 g3_12 g5_12 g6_12 g8_12 g49_12 g50_12 g51_12 g52_12 g53_12
               refine then_n ?_
               refine wp_ret ?_
               refine ret_1 Try.results14 hd16 g4_16 ?_
               have hs : sameR a b = (z14_76 && (decide (a.cmd.penalty = b.cmd.penalty))) := by simp only [hz14_5, hz14_12, hz14_19, hz14_26, hz14_35, hz14_44, hz14_53, hz14_62, hz14_69, hz14_76]; rfl
               exact ⟨by unfold sameW; rw [hll, ← hpt, listB_end (by omega) (by omega), Bool.true_and, Bool.true_and, hs], hM16.tail.tail.tail.tail⟩
     ·
      refine cond_t (g30_3.trans (by rw [decide_eq_false hnt]; rfl)) ?_
      refine wp_seq ?_
      refine region_seq 150 (fun zz e => (#[.bool false] : Array Value).getD zz undef) (fun k e w => Mem (List.getD [boxC b2_7 #[.string b.cmd.name, .slice al2 b.cmd.legs.length cl2, .int .i64 b.cmd.fare, .slice at2 b.cmd.taxes.length ct2, .int .i64 b.cmd.penalty] :: boxC b2_6 #[.string a.cmd.name, .slice al1 a.cmd.legs.length cl1, .int .i64 a.cmd.fare, .slice at1 a.cmd.taxes.length ct1, .int .i64 a.cmd.penalty] :: boxC b1_1 (recCells b (.slice al2 b.cmd.legs.length cl2) (.slice at2 b.cmd.taxes.length ct2)) :: boxC b1_0 (recCells a (.slice al1 a.cmd.legs.length cl1) (.slice at1 a.cmd.taxes.length ct1)) :: R] k []) w) (fun _ => (0, undef)) [] [0] (fun _ _ => false) hz3 (by kernel_rfl) (by kernel_rfl) (by kernel_rfl) ?_ (show Mem _ _ from hM3) ?_ ?_
      · exact ⟨fun _ _ _ => rfl, trivial⟩
      ·
       refine ⟨?_, trivial⟩
       · exact op2 (a := 0) rfl fun e w ρ (hM : Mem _ w) E => res_ok (x_assign rfl (E.c _)) (goes_still rfl rfl hM)
      ·
       intro e a17 w17 hz17 hd hG hO hM
       have hd17 := hd.trans hd3
       have g2_17 := (hO 2 rfl).trans g2_3
       have g3_17 := (hO 3 rfl).trans g3_3
       have g4_17 : a17.tmps[4]? = some (.bool false) := hG 0 _ 4 rfl rfl
       have g5_17 := (hO 5 rfl).trans g5_3
       have g6_17 := (hO 6 rfl).trans g6_3
       have hM17 : Mem (boxC b2_7 #[.string b.cmd.name, .slice al2 b.cmd.legs.length cl2, .int .i64 b.cmd.fare, .slice at2 b.cmd.taxes.length ct2, .int .i64 b.cmd.penalty] :: boxC b2_6 #[.string a.cmd.name, .slice al1 a.cmd.legs.length cl1, .int .i64 a.cmd.fare, .slice at1 a.cmd.taxes.length ct1, .int .i64 a.cmd.penalty] :: boxC b1_1 (recCells b (.slice al2 b.cmd.legs.length cl2) (.slice at2 b.cmd.taxes.length ct2)) :: boxC b1_0 (recCells a (.slice al1 a.cmd.legs.length cl1) (.slice at1 a.cmd.taxes.length ct1)) :: R) w17 := hM
       clear hM hG hO hd
       clear hz3 hd3 hM3 g2_3 g3_3 g4_3 g5_3 g6_3 g30_3
       refine then_n ?_
       refine wp_ret ?_
       refine then_r ?_
       refine ret_1 Try.results14 hd17 g4_17 ?_
       exact ⟨by unfold sameW; rw [listB_len (xs := a.cmd.taxes) (by omega), Bool.false_and, Bool.and_false], hM17.tail.tail.tail.tail⟩
   ·
    refine region_seq 150 (fun zz e => (#[.pointer (some ⟨b2_6, 1, none⟩), .slice al1 a.cmd.legs.length cl1, .int .i64 (a.cmd.legs.length : Int), .pointer (some ⟨b2_7, 1, none⟩), .slice al2 b.cmd.legs.length cl2, .int .i64 (b.cmd.legs.length : Int), .bool true, .bool true, undef, undef, undef, undef, undef, undef, undef, .bool true] : Array Value).getD zz undef) (fun k e w => Mem (List.getD [boxC b2_7 #[.string b.cmd.name, .slice al2 b.cmd.legs.length cl2, .int .i64 b.cmd.fare, .slice at2 b.cmd.taxes.length ct2, .int .i64 b.cmd.penalty] :: boxC b2_6 #[.string a.cmd.name, .slice al1 a.cmd.legs.length cl1, .int .i64 a.cmd.fare, .slice at1 a.cmd.taxes.length ct1, .int .i64 a.cmd.penalty] :: boxC b1_1 (recCells b (.slice al2 b.cmd.legs.length cl2) (.slice at2 b.cmd.taxes.length ct2)) :: boxC b1_0 (recCells a (.slice al1 a.cmd.legs.length cl1) (.slice at1 a.cmd.taxes.length ct1)) :: R] k []) w) (fun _ => (0, undef)) [] [0, 0, 0, 0, 0, 0, 0, 0, 0, 0, 0, 0, 0, 0, 0, 0] (fun _ _ => false) hz2 (by kernel_rfl) (by kernel_rfl) (by kernel_rfl) ?_ (show Mem _ _ from hM2) ?_ ?_
    · exact ⟨fun _ _ _ => rfl, fun _ _ _ => rfl, fun _ _ _ => rfl, fun _ _ _ => rfl, fun _ _ _ => rfl, fun _ _ _ => rfl, fun _ _ _ => rfl, fun _ _ _ => rfl, fun _ _ _ => rfl, fun _ _ _ => rfl, fun _ _ _ => rfl, fun _ _ _ => rfl, fun _ _ _ => rfl, fun _ _ _ => rfl, fun _ _ _ => rfl, fun _ _ _ => rfl, trivial⟩
    ·
     refine ⟨?_, ?_, ?_, ?_, ?_, ?_, ?_, ?_, ?_, ?_, ?_, ?_, ?_, ?_, ?_, ?_, trivial⟩
     · exact op2 (a := 0) rfl fun e w ρ (hM : Mem _ w) E => res_ok (x_fieldAddr (off := 1) rfl (E.o 5 _ rfl g5_2) (by kernel_rfl) rfl) (goes_still rfl rfl hM)
     · exact op2 (a := 0) rfl fun e w ρ (hM : Mem _ w) E => res_ok (x_load rfl (E.d 0 _ 15 rfl rfl rfl) (by kernel_rfl) ((hM.box 1 rfl).cell 1 rfl)) (goes_still rfl rfl hM)
     ·
      refine op2 (a := 0) rfl fun e w ρ (hM : Mem _ w) E => ?_
      have e16 : ρ (.tmp 16) = .slice al1 a.cmd.legs.length cl1 := E.d 1 _ 16 rfl rfl rfl
      exact res_ok (x_len (n := 3) rfl rfl rfl rfl (e16) (by kernel_rfl)) (goes_still rfl rfl hM)
     · exact op2 (a := 0) rfl fun e w ρ (hM : Mem _ w) E => res_ok (x_fieldAddr (off := 1) rfl (E.o 6 _ rfl g6_2) (by kernel_rfl) rfl) (goes_still rfl rfl hM)
     · exact op2 (a := 0) rfl fun e w ρ (hM : Mem _ w) E => res_ok (x_load rfl (E.d 3 _ 18 rfl rfl rfl) (by kernel_rfl) ((hM.box 0 rfl).cell 1 rfl)) (goes_still rfl rfl hM)
     ·
      refine op2 (a := 0) rfl fun e w ρ (hM : Mem _ w) E => ?_
      have e19 : ρ (.tmp 19) = .slice al2 b.cmd.legs.length cl2 := E.d 4 _ 19 rfl rfl rfl
      exact res_ok (x_len (n := 3) rfl rfl rfl rfl (e19) (by kernel_rfl)) (goes_still rfl rfl hM)
     · exact op2 (a := 0) rfl fun e w ρ (hM : Mem _ w) E => res_ok (x_neq rfl (E.d 2 _ 17 rfl rfl rfl) (E.d 5 _ 20 rfl rfl rfl) (by rw [decide_eq_false hnl]; rfl)) (goes_still rfl rfl hM)
     · exact op2 (a := 0) rfl fun e w ρ (hM : Mem _ w) E => res_ok (x_move rfl (E.d 6 _ 21 rfl rfl rfl)) (goes_still rfl rfl hM)
     · exact op1 (a := 0) rfl fun e w ρ hO E => (if_neg Bool.false_ne_true).mpr (goes_still rfl rfl hO)
     · exact op1 (a := 0) rfl fun e w ρ hO E => (if_neg Bool.false_ne_true).mpr (goes_still rfl rfl hO)
     · exact op1 (a := 0) rfl fun e w ρ hO E => (if_neg Bool.false_ne_true).mpr (goes_still rfl rfl hO)
     · exact op1 (a := 0) rfl fun e w ρ hO E => (if_neg Bool.false_ne_true).mpr (goes_still rfl rfl hO)
     · exact op1 (a := 0) rfl fun e w ρ hO E => (if_neg Bool.false_ne_true).mpr (goes_still rfl rfl hO)
     · exact op1 (a := 0) rfl fun e w ρ hO E => (if_neg Bool.false_ne_true).mpr (goes_still rfl rfl hO)
     · exact op1 (a := 0) rfl fun e w ρ hO E => (if_neg Bool.false_ne_true).mpr (goes_still rfl rfl hO)
     ·
      refine op2 (a := 0) rfl fun e w ρ (hM : Mem _ w) E => ?_
      have e22 : ρ (.tmp 22) = .bool true := E.d 7 _ 22 rfl rfl rfl
      have e29 : ρ (.tmp 29) = undef := E.d 14 _ 29 rfl rfl rfl
      exact res_ok (x_pick rfl (e22) (E.c _)) (goes_still rfl rfl hM)
    ·
     intro e a18 w18 hz18 hd hG hO hM
     have hd18 := hd.trans hd2
     have g2_18 := (hO 2 rfl).trans g2_2
     have g3_18 := (hO 3 rfl).trans g3_2
     have g4_18 := (hO 4 rfl).trans g4_2
     have g5_18 := (hO 5 rfl).trans g5_2
     have g6_18 := (hO 6 rfl).trans g6_2
     have g30_18 : a18.tmps[30]? = some (.bool true) := hG 15 _ 30 rfl rfl
     have hM18 : Mem (boxC b2_7 #[.string b.cmd.name, .slice al2 b.cmd.legs.length cl2, .int .i64 b.cmd.fare, .slice at2 b.cmd.taxes.length ct2, .int .i64 b.cmd.penalty] :: boxC b2_6 #[.string a.cmd.name, .slice al1 a.cmd.legs.length cl1, .int .i64 a.cmd.fare, .slice at1 a.cmd.taxes.length ct1, .int .i64 a.cmd.penalty] :: boxC b1_1 (recCells b (.slice al2 b.cmd.legs.length cl2) (.slice at2 b.cmd.taxes.length ct2)) :: boxC b1_0 (recCells a (.slice al1 a.cmd.legs.length cl1) (.slice at1 a.cmd.taxes.length ct1)) :: R) w18 := hM
     clear hM hG hO hd
     clear hz2 hd2 hM2 g2_2 g3_2 g4_2 g5_2 g6_2
     refine then_n ?_
     refine cond_t g30_18 ?_
     refine wp_seq ?_
     refine region_seq 150 (fun zz e => (#[.bool false] : Array Value).getD zz undef) (fun k e w => Mem (List.getD [boxC b2_7 #[.string b.cmd.name, .slice al2 b.cmd.legs.length cl2, .int .i64 b.cmd.fare, .slice at2 b.cmd.taxes.length ct2, .int .i64 b.cmd.penalty] :: boxC b2_6 #[.string a.cmd.name, .slice al1 a.cmd.legs.length cl1, .int .i64 a.cmd.fare, .slice at1 a.cmd.taxes.length ct1, .int .i64 a.cmd.penalty] :: boxC b1_1 (recCells b (.slice al2 b.cmd.legs.length cl2) (.slice at2 b.cmd.taxes.length ct2)) :: boxC b1_0 (recCells a (.slice al1 a.cmd.legs.length cl1) (.slice at1 a.cmd.taxes.length ct1)) :: R] k []) w) (fun _ => (0, undef)) [] [0] (fun _ _ => false) hz18 (by kernel_rfl) (by kernel_rfl) (by kernel_rfl) ?_ (show Mem _ _ from hM18) ?_ ?_
     · exact ⟨fun _ _ _ => rfl, trivial⟩
     ·
      refine ⟨?_, trivial⟩
      · exact op2 (a := 0) rfl fun e w ρ (hM : Mem _ w) E => res_ok (x_assign rfl (E.c _)) (goes_still rfl rfl hM)
     ·
      intro e a19 w19 hz19 hd hG hO hM
      have hd19 := hd.trans hd18
      have g2_19 := (hO 2 rfl).trans g2_18
      have g3_19 := (hO 3 rfl).trans g3_18
      have g4_19 : a19.tmps[4]? = some (.bool false) := hG 0 _ 4 rfl rfl
      have g5_19 := (hO 5 rfl).trans g5_18
      have g6_19 := (hO 6 rfl).trans g6_18
      have hM19 : Mem (boxC b2_7 #[.string b.cmd.name, .slice al2 b.cmd.legs.length cl2, .int .i64 b.cmd.fare, .slice at2 b.cmd.taxes.length ct2, .int .i64 b.cmd.penalty] :: boxC b2_6 #[.string a.cmd.name, .slice al1 a.cmd.legs.length cl1, .int .i64 a.cmd.fare, .slice at1 a.cmd.taxes.length ct1, .int .i64 a.cmd.penalty] :: boxC b1_1 (recCells b (.slice al2 b.cmd.legs.length cl2) (.slice at2 b.cmd.taxes.length ct2)) :: boxC b1_0 (recCells a (.slice al1 a.cmd.legs.length cl1) (.slice at1 a.cmd.taxes.length ct1)) :: R) w19 := hM
      clear hM hG hO hd
      clear hz18 hd18 hM18 g2_18 g3_18 g4_18 g5_18 g6_18 g30_18
      refine then_n ?_
      refine wp_ret ?_
      refine then_r ?_
      refine ret_1 Try.results14 hd19 g4_19 ?_
      exact ⟨by unfold sameW; rw [listB_len (by omega), Bool.false_and], hM19.tail.tail.tail.tail⟩
end Go.Proofs.Ytfcjmpgbohgoeaa
