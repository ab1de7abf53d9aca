/- CODEC: records alike, cut; texts that are too long. -/
import Derived.Test.YtfcjmpgbohgoeaaCo10
namespace Go.Proofs.Ytfcjmpgbohgoeaa
open Go.RowKit Go.Lib Go.Tk Go.Shelf Go.Vc
set_option linter.unusedVariables false
set_option linter.unusedSimpArgs false
attribute [-go_sem] loadCellsFrom
def cmd0 : CmdV := ⟨0, ⟨0, 0⟩, 0, ByteArray.empty, [], 0, [], 0, 0⟩
def msg0 : MsgV := ⟨0, ⟨0, 0⟩, 0, ⟨0, 0, 0⟩, 0, 0, 0, 0, 0⟩
def rec0 : RecV := ⟨0, cmd0, 0, 0, msg0⟩
def cutV (r : RecV) : RecV := if r.kind = 1 then ⟨r.kind, r.cmd, 0, 0, msg0⟩ else if r.kind = 2 then ⟨r.kind, cmd0, r.frm, r.number, r.msg⟩ else ⟨r.kind, cmd0, r.frm, r.number, msg0⟩
def sameV (a b : RecV) : Bool := decide (a.kind = b.kind) && decide (a.frm = b.frm) && decide (a.number = b.number) && msgB a.msg b.msg && decide (a.cmd.kind = b.cmd.kind) && tickB a.cmd.tick b.cmd.tick && decide (a.cmd.at_ = b.cmd.at_) && decide (a.cmd.amount = b.cmd.amount) && decide (a.cmd.name = b.cmd.name) && listB legB a.cmd.legs b.cmd.legs && decide (a.cmd.fare = b.cmd.fare) && listB taxB a.cmd.taxes b.cmd.taxes && decide (a.cmd.penalty = b.cmd.penalty)
def longT (t : TaxV) : Bool := decide ((t.code.size : Int) > 32)
def findI {α : Type} (p : α → Bool) : List α → Nat → Int
 | [], _ => -1
 | x :: l, i => if p x then (i : Int) else findI p l (i + 1)
theorem findI_step {α : Type} {p : α → Bool} {l : List α} {i : Nat} {x : α} (hx : l[i]? = some x) : findI p (l.drop i) i = if p x then (i : Int) else findI p (l.drop (i + 1)) (i + 1) := by
 obtain ⟨h1, h2⟩ := List.getElem?_eq_some_iff.1 hx
 rw [List.drop_eq_getElem_cons h1, h2]; rfl
theorem findI_any {α : Type} {p : α → Bool} : ∀ (l : List α) (i : Nat), decide (findI p l i ≥ 0) = l.any p
 | [], _ => rfl
 | x :: l, i => by
  unfold findI
  rw [List.any_cons]
  cases h : p x with
  | true => simp
  | false => simpa [ge_iff_le] using findI_any l (i + 1)
set_option maxRecDepth 100000 in
set_option maxHeartbeats 8000000 in
theorem same_at (a b : RecV) (al1 at1 al2 at2 : Option Addr) (cl1 ct1 cl2 ct2 : Nat) (R : List Chunk) (w : World) (hM : Mem R w) (hl1 : Reads R al1 (cellsL legE a.cmd.legs)) (ht1 : Reads R at1 (cellsL taxE a.cmd.taxes)) (hn1 : a.cmd.legs.length ≤ 1000000 ∧ a.cmd.taxes.length ≤ 1000000) (hl2 : Reads R al2 (cellsL legE b.cmd.legs)) (ht2 : Reads R at2 (cellsL taxE b.cmd.taxes)) (hn2 : b.cmd.legs.length ≤ 1000000 ∧ b.cmd.taxes.length ≤ 1000000) :
  Calls Try.prog 20 #[.agg (recCells a (.slice al1 a.cmd.legs.length cl1) (.slice at1 a.cmd.taxes.length ct1)), .agg (recCells b (.slice al2 b.cmd.legs.length cl2) (.slice at2 b.cmd.taxes.length ct2))] w fun e w' => e = .returned (.bool (sameV a b)) ∧ Mem R w' := by
 refine enter Try.func20 rfl Try.ntmps20 (Nat.le_of_ble_eq_true rfl) ?_
 intro a0 hz0 hd0 hg0
 have g0_0 : a0.tmps[0]? = some (.agg (recCells a (.slice al1 a.cmd.legs.length cl1) (.slice at1 a.cmd.taxes.length ct1))) := hg0 0 _ rfl
 have g1_0 : a0.tmps[1]? = some (.agg (recCells b (.slice al2 b.cmd.legs.length cl2) (.slice at2 b.cmd.taxes.length ct2))) := hg0 1 _ rfl
 clear hg0
 have hM0 : Mem (R) _ := hM
 refine wp_seq ?_
 refine region_seq 110 (fun zz e => (#[.pointer (some ⟨(e 0).1, 0, none⟩), .pointer (some ⟨(e 1).1, 0, none⟩), .bool false] : Array Value).getD zz undef) (fun k e w => Mem (List.getD [R, boxC ((e 0).1) (recCells a (.slice al1 a.cmd.legs.length cl1) (.slice at1 a.cmd.taxes.length ct1)) :: R, boxC ((e 1).1) (recCells b (.slice al2 b.cmd.legs.length cl2) (.slice at2 b.cmd.taxes.length ct2)) :: boxC ((e 0).1) (recCells a (.slice al1 a.cmd.legs.length cl1) (.slice at1 a.cmd.taxes.length ct1)) :: R] k []) w) (fun _ => (0, undef)) [0, 1] [0, 1, 2] (fun _ _ => false) hz0 (by kernel_rfl) (by kernel_rfl) (by kernel_rfl) ?_ (show Mem _ _ from hM0) ?_ ?_
 · exact ⟨fun e e' h => congrArg (fun x : Rv => (.pointer (some ⟨x.1, 0, none⟩) : Value)) (h 0 (by decide)), fun e e' h => congrArg (fun x : Rv => (.pointer (some ⟨x.1, 0, none⟩) : Value)) (h 1 (by decide)), fun _ _ _ => rfl, trivial⟩
 ·
  refine ⟨?_, ?_, ?_, trivial⟩
  ·
   refine op2 (a := 0) rfl fun e w ρ (hM : Mem _ w) E => ?_
   have e0 : ρ (.tmp 0) = .agg (recCells a (.slice al1 a.cmd.legs.length cl1) (.slice at1 a.cmd.taxes.length ct1)) := E.o 0 _ rfl g0_0
   exact res_ok (x_box rfl (e0)) (goes_tick rfl (w.heap.size, undef) rfl (hM.alloc _ _))
  ·
   refine op2 (a := 1) rfl fun e w ρ (hM : Mem _ w) E => ?_
   have e1 : ρ (.tmp 1) = .agg (recCells b (.slice al2 b.cmd.legs.length cl2) (.slice at2 b.cmd.taxes.length ct2)) := E.o 1 _ rfl g1_0
   exact res_ok (x_box rfl (e1)) (goes_tick rfl (w.heap.size, undef) rfl (hM.alloc _ _))
  · exact op2 (a := 2) rfl fun e w ρ (hM : Mem _ w) E => res_ok (x_assign rfl (E.c _)) (goes_still rfl rfl hM)
 ·
  intro e a1 w1 hz1 hd hG hO hM
  have hd1 := hd.trans hd0
  have g2_1 : a1.tmps[2]? = some (.pointer (some ⟨(e 0).1, 0, none⟩)) := hG 0 _ 2 rfl rfl
  have g3_1 : a1.tmps[3]? = some (.pointer (some ⟨(e 1).1, 0, none⟩)) := hG 1 _ 3 rfl rfl
  have g4_1 : a1.tmps[4]? = some (.bool false) := hG 2 _ 4 rfl rfl
  have hM1 : Mem (boxC ((e 1).1) (recCells b (.slice al2 b.cmd.legs.length cl2) (.slice at2 b.cmd.taxes.length ct2)) :: boxC ((e 0).1) (recCells a (.slice al1 a.cmd.legs.length cl1) (.slice at1 a.cmd.taxes.length ct1)) :: R) w1 := hM
  clear hM hG hO hd
  clear hz0 hd0 hM0 g0_0 g1_0
  generalize (e 0).1 = b1_0 at *
  generalize (e 1).1 = b1_1 at *
  refine then_n ?_
  refine wp_seq ?_
  refine region_mask 110 (fun zz e => (#[.pointer (some ⟨b1_0, 1, none⟩), .pointer (some ⟨b1_0, 5, none⟩), .agg #[.string a.cmd.name, .slice al1 a.cmd.legs.length cl1, .int .i64 a.cmd.fare, .slice at1 a.cmd.taxes.length ct1, .int .i64 a.cmd.penalty], .pointer (some ⟨b1_1, 1, none⟩), .pointer (some ⟨b1_1, 5, none⟩), .agg #[.string b.cmd.name, .slice al2 b.cmd.legs.length cl2, .int .i64 b.cmd.fare, .slice at2 b.cmd.taxes.length ct2, .int .i64 b.cmd.penalty], .pointer (some ⟨(e 6).1, 0, none⟩), .pointer (some ⟨(e 7).1, 0, none⟩), undef, undef] : Array Value).getD zz undef) (fun L e w => Mem (List.getD [boxC b1_1 (recCells b (.slice al2 b.cmd.legs.length cl2) (.slice at2 b.cmd.taxes.length ct2)) :: boxC b1_0 (recCells a (.slice al1 a.cmd.legs.length cl1) (.slice at1 a.cmd.taxes.length ct1)) :: R, boxC ((e 6).1) #[.string ByteArray.empty, .slice none 0 0, .int .i64 0, .slice none 0 0, .int .i64 0] :: boxC b1_1 (recCells b (.slice al2 b.cmd.legs.length cl2) (.slice at2 b.cmd.taxes.length ct2)) :: boxC b1_0 (recCells a (.slice al1 a.cmd.legs.length cl1) (.slice at1 a.cmd.taxes.length ct1)) :: R, boxC ((e 7).1) #[.string ByteArray.empty, .slice none 0 0, .int .i64 0, .slice none 0 0, .int .i64 0] :: boxC b1_1 (recCells b (.slice al2 b.cmd.legs.length cl2) (.slice at2 b.cmd.taxes.length ct2)) :: boxC b1_0 (recCells a (.slice al1 a.cmd.legs.length cl1) (.slice at1 a.cmd.taxes.length ct1)) :: R, boxC ((e 7).1) #[.string ByteArray.empty, .slice none 0 0, .int .i64 0, .slice none 0 0, .int .i64 0] :: boxC ((e 6).1) #[.string ByteArray.empty, .slice none 0 0, .int .i64 0, .slice none 0 0, .int .i64 0] :: boxC b1_1 (recCells b (.slice al2 b.cmd.legs.length cl2) (.slice at2 b.cmd.taxes.length ct2)) :: boxC b1_0 (recCells a (.slice al1 a.cmd.legs.length cl1) (.slice at1 a.cmd.taxes.length ct1)) :: R, [], [], [], boxC ((e 7).1) #[.string ByteArray.empty, .slice none 0 0, .int .i64 0, .slice none 0 0, .int .i64 0] :: boxC ((e 6).1) #[.string a.cmd.name, .slice al1 a.cmd.legs.length cl1, .int .i64 a.cmd.fare, .slice at1 a.cmd.taxes.length ct1, .int .i64 a.cmd.penalty] :: boxC b1_1 (recCells b (.slice al2 b.cmd.legs.length cl2) (.slice at2 b.cmd.taxes.length ct2)) :: boxC b1_0 (recCells a (.slice al1 a.cmd.legs.length cl1) (.slice at1 a.cmd.taxes.length ct1)) :: R, [], [], [], [], [], [], [], boxC ((e 7).1) #[.string b.cmd.name, .slice al2 b.cmd.legs.length cl2, .int .i64 b.cmd.fare, .slice at2 b.cmd.taxes.length ct2, .int .i64 b.cmd.penalty] :: boxC ((e 6).1) #[.string a.cmd.name, .slice al1 a.cmd.legs.length cl1, .int .i64 a.cmd.fare, .slice at1 a.cmd.taxes.length ct1, .int .i64 a.cmd.penalty] :: boxC b1_1 (recCells b (.slice al2 b.cmd.legs.length cl2) (.slice at2 b.cmd.taxes.length ct2)) :: boxC b1_0 (recCells a (.slice al1 a.cmd.legs.length cl1) (.slice at1 a.cmd.taxes.length ct1)) :: R] (maskN [6, 7, 8, 9] L) []) w) (fun _ => (0, undef)) [[], [0], [0, 1], [], [3], [3, 4], [], [], [0, 1, 2, 6, 7], [0, 1, 2, 3, 4, 5, 6, 7, 8]] [0, 0, 0, 0, 0, 0, 0, 0, 0, 0] [0, 0, 0, 0, 0, 0, 0, 0, 0, 0] (fun _ _ => false) hz1 (by kernel_rfl) (by kernel_rfl) (by kernel_rfl) (by kernel_rfl) (by kernel_rfl) ?_ (show Mem _ _ from hM1.drew) ?_ ?_
  · exact ⟨fun _ _ _ => rfl, fun _ _ _ => rfl, fun _ _ _ => rfl, fun _ _ _ => rfl, fun _ _ _ => rfl, fun _ _ _ => rfl, fun e e' h => congrArg (fun x : Rv => (.pointer (some ⟨x.1, 0, none⟩) : Value)) (h 6 (.inl rfl)), fun e e' h => congrArg (fun x : Rv => (.pointer (some ⟨x.1, 0, none⟩) : Value)) (h 7 (.inl rfl)), fun _ _ _ => rfl, fun _ _ _ => rfl, trivial⟩
  ·
   refine ⟨?_, ?_, ?_, ?_, ?_, ?_, ?_, ?_, ?_, ?_, trivial⟩
   ·
    intro L e w ρ hL0 hL1 hL2 hL3 hO E
    have l8 : L 8 = false := hL2 8 (Nat.le_of_ble_eq_true rfl) (by decide)
    have l9 : L 9 = false := hL2 9 (Nat.le_of_ble_eq_true rfl) (by decide)
    cases l6 : L 6
    ·
     cases l7 : L 7
     ·
      replace hO : Mem (List.getD _ (maskN [6, 7, 8, 9] L) []) w := hO
      rw [show maskN [6, 7, 8, 9] L = 0 from by simp only [maskN, l6, l7, l8, l9] <;> rfl] at hO
      have hM : Mem _ w := hO
      have e2 : ρ (.tmp 2) = .pointer (some ⟨b1_0, 0, none⟩) := E.o 2 _ rfl g2_1
      refine (if_pos rfl).mpr ?_
      have hmk : maskN [6, 7, 8, 9] (setL L 0) = 0 := by simp only [maskN, setL, l6, l7, l8, l9] <;> rfl
      exact res_ok (x_fieldAddr (off := 1) rfl (e2) (by kernel_rfl) rfl) ⟨(0, undef), rfl, (by show Mem (List.getD _ (maskN [6, 7, 8, 9] (setL L 0)) []) _; rw [hmk]; exact hM)⟩
     ·
      replace hO : Mem (List.getD _ (maskN [6, 7, 8, 9] L) []) w := hO
      rw [show maskN [6, 7, 8, 9] L = 2 from by simp only [maskN, l6, l7, l8, l9] <;> rfl] at hO
      have hM : Mem _ w := hO
      have e2 : ρ (.tmp 2) = .pointer (some ⟨b1_0, 0, none⟩) := E.o 2 _ rfl g2_1
      refine (if_pos rfl).mpr ?_
      have hmk : maskN [6, 7, 8, 9] (setL L 0) = 2 := by simp only [maskN, setL, l6, l7, l8, l9] <;> rfl
      exact res_ok (x_fieldAddr (off := 1) rfl (e2) (by kernel_rfl) rfl) ⟨(0, undef), rfl, (by show Mem (List.getD _ (maskN [6, 7, 8, 9] (setL L 0)) []) _; rw [hmk]; exact hM)⟩
    ·
     cases l7 : L 7
     ·
      replace hO : Mem (List.getD _ (maskN [6, 7, 8, 9] L) []) w := hO
      rw [show maskN [6, 7, 8, 9] L = 1 from by simp only [maskN, l6, l7, l8, l9] <;> rfl] at hO
      have hM : Mem _ w := hO
      have e2 : ρ (.tmp 2) = .pointer (some ⟨b1_0, 0, none⟩) := E.o 2 _ rfl g2_1
      refine (if_pos rfl).mpr ?_
      have hmk : maskN [6, 7, 8, 9] (setL L 0) = 1 := by simp only [maskN, setL, l6, l7, l8, l9] <;> rfl
      exact res_ok (x_fieldAddr (off := 1) rfl (e2) (by kernel_rfl) rfl) ⟨(0, undef), rfl, (by show Mem (List.getD _ (maskN [6, 7, 8, 9] (setL L 0)) []) _; rw [hmk]; exact hM)⟩
     ·
      replace hO : Mem (List.getD _ (maskN [6, 7, 8, 9] L) []) w := hO
      rw [show maskN [6, 7, 8, 9] L = 3 from by simp only [maskN, l6, l7, l8, l9] <;> rfl] at hO
      have hM : Mem _ w := hO
      have e2 : ρ (.tmp 2) = .pointer (some ⟨b1_0, 0, none⟩) := E.o 2 _ rfl g2_1
      refine (if_pos rfl).mpr ?_
      have hmk : maskN [6, 7, 8, 9] (setL L 0) = 3 := by simp only [maskN, setL, l6, l7, l8, l9] <;> rfl
      exact res_ok (x_fieldAddr (off := 1) rfl (e2) (by kernel_rfl) rfl) ⟨(0, undef), rfl, (by show Mem (List.getD _ (maskN [6, 7, 8, 9] (setL L 0)) []) _; rw [hmk]; exact hM)⟩
   ·
    intro L e w ρ hL0 hL1 hL2 hL3 hO E
    have l8 : L 8 = false := hL2 8 (Nat.le_of_ble_eq_true rfl) (by decide)
    have l9 : L 9 = false := hL2 9 (Nat.le_of_ble_eq_true rfl) (by decide)
    cases l6 : L 6
    ·
     cases l7 : L 7
     ·
      replace hO : Mem (List.getD _ (maskN [6, 7, 8, 9] L) []) w := hO
      rw [show maskN [6, 7, 8, 9] L = 0 from by simp only [maskN, l6, l7, l8, l9] <;> rfl] at hO
      have hM : Mem _ w := hO
      have e7 : ρ (.tmp 7) = .pointer (some ⟨b1_0, 1, none⟩) := E.d 0 _ 7 rfl rfl rfl
      refine (if_pos rfl).mpr ?_
      have hmk : maskN [6, 7, 8, 9] (setL L 1) = 0 := by simp only [maskN, setL, l6, l7, l8, l9] <;> rfl
      exact res_ok (x_fieldAddr (off := 4) rfl (e7) (by kernel_rfl) rfl) ⟨(0, undef), rfl, (by show Mem (List.getD _ (maskN [6, 7, 8, 9] (setL L 1)) []) _; rw [hmk]; exact hM)⟩
     ·
      replace hO : Mem (List.getD _ (maskN [6, 7, 8, 9] L) []) w := hO
      rw [show maskN [6, 7, 8, 9] L = 2 from by simp only [maskN, l6, l7, l8, l9] <;> rfl] at hO
      have hM : Mem _ w := hO
      have e7 : ρ (.tmp 7) = .pointer (some ⟨b1_0, 1, none⟩) := E.d 0 _ 7 rfl rfl rfl
      refine (if_pos rfl).mpr ?_
      have hmk : maskN [6, 7, 8, 9] (setL L 1) = 2 := by simp only [maskN, setL, l6, l7, l8, l9] <;> rfl
      exact res_ok (x_fieldAddr (off := 4) rfl (e7) (by kernel_rfl) rfl) ⟨(0, undef), rfl, (by show Mem (List.getD _ (maskN [6, 7, 8, 9] (setL L 1)) []) _; rw [hmk]; exact hM)⟩
    ·
     cases l7 : L 7
     ·
      replace hO : Mem (List.getD _ (maskN [6, 7, 8, 9] L) []) w := hO
      rw [show maskN [6, 7, 8, 9] L = 1 from by simp only [maskN, l6, l7, l8, l9] <;> rfl] at hO
      have hM : Mem _ w := hO
      have e7 : ρ (.tmp 7) = .pointer (some ⟨b1_0, 1, none⟩) := E.d 0 _ 7 rfl rfl rfl
      refine (if_pos rfl).mpr ?_
      have hmk : maskN [6, 7, 8, 9] (setL L 1) = 1 := by simp only [maskN, setL, l6, l7, l8, l9] <;> rfl
      exact res_ok (x_fieldAddr (off := 4) rfl (e7) (by kernel_rfl) rfl) ⟨(0, undef), rfl, (by show Mem (List.getD _ (maskN [6, 7, 8, 9] (setL L 1)) []) _; rw [hmk]; exact hM)⟩
     ·
      replace hO : Mem (List.getD _ (maskN [6, 7, 8, 9] L) []) w := hO
      rw [show maskN [6, 7, 8, 9] L = 3 from by simp only [maskN, l6, l7, l8, l9] <;> rfl] at hO
      have hM : Mem _ w := hO
      have e7 : ρ (.tmp 7) = .pointer (some ⟨b1_0, 1, none⟩) := E.d 0 _ 7 rfl rfl rfl
      refine (if_pos rfl).mpr ?_
      have hmk : maskN [6, 7, 8, 9] (setL L 1) = 3 := by simp only [maskN, setL, l6, l7, l8, l9] <;> rfl
      exact res_ok (x_fieldAddr (off := 4) rfl (e7) (by kernel_rfl) rfl) ⟨(0, undef), rfl, (by show Mem (List.getD _ (maskN [6, 7, 8, 9] (setL L 1)) []) _; rw [hmk]; exact hM)⟩
   ·
    intro L e w ρ hL0 hL1 hL2 hL3 hO E
    have l8 : L 8 = false := hL2 8 (Nat.le_of_ble_eq_true rfl) (by decide)
    have l9 : L 9 = false := hL2 9 (Nat.le_of_ble_eq_true rfl) (by decide)
    cases l6 : L 6
    ·
     cases l7 : L 7
     ·
      replace hO : Mem (List.getD _ (maskN [6, 7, 8, 9] L) []) w := hO
      rw [show maskN [6, 7, 8, 9] L = 0 from by simp only [maskN, l6, l7, l8, l9] <;> rfl] at hO
      have hM : Mem _ w := hO
      have e8 : ρ (.tmp 8) = .pointer (some ⟨b1_0, 5, none⟩) := E.d 1 _ 8 rfl rfl rfl
      refine (if_pos rfl).mpr ?_
      have hmk : maskN [6, 7, 8, 9] (setL L 2) = 0 := by simp only [maskN, setL, l6, l7, l8, l9] <;> rfl
      exact res_ok (x_loads rfl (e8) (by kernel_rfl) (load_part (hM.box 1 rfl) [.string a.cmd.name, .slice al1 a.cmd.legs.length cl1, .int .i64 a.cmd.fare, .slice at1 a.cmd.taxes.length ct1, .int .i64 a.cmd.penalty] rfl (Nat.le_of_ble_eq_true rfl) rfl)) ⟨(0, undef), rfl, (by show Mem (List.getD _ (maskN [6, 7, 8, 9] (setL L 2)) []) _; rw [hmk]; exact hM)⟩
     ·
      replace hO : Mem (List.getD _ (maskN [6, 7, 8, 9] L) []) w := hO
      rw [show maskN [6, 7, 8, 9] L = 2 from by simp only [maskN, l6, l7, l8, l9] <;> rfl] at hO
      have hM : Mem _ w := hO
      have e8 : ρ (.tmp 8) = .pointer (some ⟨b1_0, 5, none⟩) := E.d 1 _ 8 rfl rfl rfl
      refine (if_pos rfl).mpr ?_
      have hmk : maskN [6, 7, 8, 9] (setL L 2) = 2 := by simp only [maskN, setL, l6, l7, l8, l9] <;> rfl
      exact res_ok (x_loads rfl (e8) (by kernel_rfl) (load_part (hM.box 2 rfl) [.string a.cmd.name, .slice al1 a.cmd.legs.length cl1, .int .i64 a.cmd.fare, .slice at1 a.cmd.taxes.length ct1, .int .i64 a.cmd.penalty] rfl (Nat.le_of_ble_eq_true rfl) rfl)) ⟨(0, undef), rfl, (by show Mem (List.getD _ (maskN [6, 7, 8, 9] (setL L 2)) []) _; rw [hmk]; exact hM)⟩
    ·
     cases l7 : L 7
     ·
      replace hO : Mem (List.getD _ (maskN [6, 7, 8, 9] L) []) w := hO
      rw [show maskN [6, 7, 8, 9] L = 1 from by simp only [maskN, l6, l7, l8, l9] <;> rfl] at hO
      have hM : Mem _ w := hO
      have e8 : ρ (.tmp 8) = .pointer (some ⟨b1_0, 5, none⟩) := E.d 1 _ 8 rfl rfl rfl
      refine (if_pos rfl).mpr ?_
      have hmk : maskN [6, 7, 8, 9] (setL L 2) = 1 := by simp only [maskN, setL, l6, l7, l8, l9] <;> rfl
      exact res_ok (x_loads rfl (e8) (by kernel_rfl) (load_part (hM.box 2 rfl) [.string a.cmd.name, .slice al1 a.cmd.legs.length cl1, .int .i64 a.cmd.fare, .slice at1 a.cmd.taxes.length ct1, .int .i64 a.cmd.penalty] rfl (Nat.le_of_ble_eq_true rfl) rfl)) ⟨(0, undef), rfl, (by show Mem (List.getD _ (maskN [6, 7, 8, 9] (setL L 2)) []) _; rw [hmk]; exact hM)⟩
     ·
      replace hO : Mem (List.getD _ (maskN [6, 7, 8, 9] L) []) w := hO
      rw [show maskN [6, 7, 8, 9] L = 3 from by simp only [maskN, l6, l7, l8, l9] <;> rfl] at hO
      have hM : Mem _ w := hO
      have e8 : ρ (.tmp 8) = .pointer (some ⟨b1_0, 5, none⟩) := E.d 1 _ 8 rfl rfl rfl
      refine (if_pos rfl).mpr ?_
      have hmk : maskN [6, 7, 8, 9] (setL L 2) = 3 := by simp only [maskN, setL, l6, l7, l8, l9] <;> rfl
      exact res_ok (x_loads rfl (e8) (by kernel_rfl) (load_part (hM.box 3 rfl) [.string a.cmd.name, .slice al1 a.cmd.legs.length cl1, .int .i64 a.cmd.fare, .slice at1 a.cmd.taxes.length ct1, .int .i64 a.cmd.penalty] rfl (Nat.le_of_ble_eq_true rfl) rfl)) ⟨(0, undef), rfl, (by show Mem (List.getD _ (maskN [6, 7, 8, 9] (setL L 2)) []) _; rw [hmk]; exact hM)⟩
   ·
    intro L e w ρ hL0 hL1 hL2 hL3 hO E
    have l9 : L 9 = false := hL2 9 (Nat.le_of_ble_eq_true rfl) (by decide)
    cases l6 : L 6
    ·
     cases l7 : L 7
     ·
      cases l8 : L 8
      ·
       replace hO : Mem (List.getD _ (maskN [6, 7, 8, 9] L) []) w := hO
       rw [show maskN [6, 7, 8, 9] L = 0 from by simp only [maskN, l6, l7, l8, l9] <;> rfl] at hO
       have hM : Mem _ w := hO
       have e3 : ρ (.tmp 3) = .pointer (some ⟨b1_1, 0, none⟩) := E.o 3 _ rfl g3_1
       refine (if_pos rfl).mpr ?_
       have hmk : maskN [6, 7, 8, 9] (setL L 3) = 0 := by simp only [maskN, setL, l6, l7, l8, l9] <;> rfl
       exact res_ok (x_fieldAddr (off := 1) rfl (e3) (by kernel_rfl) rfl) ⟨(0, undef), rfl, (by show Mem (List.getD _ (maskN [6, 7, 8, 9] (setL L 3)) []) _; rw [hmk]; exact hM)⟩
      ·
       exact absurd (hL3 8 (Nat.le_of_ble_eq_true rfl) l8 6 (by decide)) (by rw [l6]; decide)
     ·
      cases l8 : L 8
      ·
       replace hO : Mem (List.getD _ (maskN [6, 7, 8, 9] L) []) w := hO
       rw [show maskN [6, 7, 8, 9] L = 2 from by simp only [maskN, l6, l7, l8, l9] <;> rfl] at hO
       have hM : Mem _ w := hO
       have e3 : ρ (.tmp 3) = .pointer (some ⟨b1_1, 0, none⟩) := E.o 3 _ rfl g3_1
       refine (if_pos rfl).mpr ?_
       have hmk : maskN [6, 7, 8, 9] (setL L 3) = 2 := by simp only [maskN, setL, l6, l7, l8, l9] <;> rfl
       exact res_ok (x_fieldAddr (off := 1) rfl (e3) (by kernel_rfl) rfl) ⟨(0, undef), rfl, (by show Mem (List.getD _ (maskN [6, 7, 8, 9] (setL L 3)) []) _; rw [hmk]; exact hM)⟩
      ·
       exact absurd (hL3 8 (Nat.le_of_ble_eq_true rfl) l8 6 (by decide)) (by rw [l6]; decide)
    ·
     cases l7 : L 7
     ·
      cases l8 : L 8
      ·
       replace hO : Mem (List.getD _ (maskN [6, 7, 8, 9] L) []) w := hO
       rw [show maskN [6, 7, 8, 9] L = 1 from by simp only [maskN, l6, l7, l8, l9] <;> rfl] at hO
       have hM : Mem _ w := hO
       have e3 : ρ (.tmp 3) = .pointer (some ⟨b1_1, 0, none⟩) := E.o 3 _ rfl g3_1
       refine (if_pos rfl).mpr ?_
       have hmk : maskN [6, 7, 8, 9] (setL L 3) = 1 := by simp only [maskN, setL, l6, l7, l8, l9] <;> rfl
       exact res_ok (x_fieldAddr (off := 1) rfl (e3) (by kernel_rfl) rfl) ⟨(0, undef), rfl, (by show Mem (List.getD _ (maskN [6, 7, 8, 9] (setL L 3)) []) _; rw [hmk]; exact hM)⟩
      ·
       exact absurd (hL3 8 (Nat.le_of_ble_eq_true rfl) l8 7 (by decide)) (by rw [l7]; decide)
     ·
      cases l8 : L 8
      ·
       replace hO : Mem (List.getD _ (maskN [6, 7, 8, 9] L) []) w := hO
       rw [show maskN [6, 7, 8, 9] L = 3 from by simp only [maskN, l6, l7, l8, l9] <;> rfl] at hO
       have hM : Mem _ w := hO
       have e3 : ρ (.tmp 3) = .pointer (some ⟨b1_1, 0, none⟩) := E.o 3 _ rfl g3_1
       refine (if_pos rfl).mpr ?_
       have hmk : maskN [6, 7, 8, 9] (setL L 3) = 3 := by simp only [maskN, setL, l6, l7, l8, l9] <;> rfl
       exact res_ok (x_fieldAddr (off := 1) rfl (e3) (by kernel_rfl) rfl) ⟨(0, undef), rfl, (by show Mem (List.getD _ (maskN [6, 7, 8, 9] (setL L 3)) []) _; rw [hmk]; exact hM)⟩
      ·
       replace hO : Mem (List.getD _ (maskN [6, 7, 8, 9] L) []) w := hO
       rw [show maskN [6, 7, 8, 9] L = 7 from by simp only [maskN, l6, l7, l8, l9] <;> rfl] at hO
       have hM : Mem _ w := hO
       have e3 : ρ (.tmp 3) = .pointer (some ⟨b1_1, 0, none⟩) := E.o 3 _ rfl g3_1
       refine (if_pos rfl).mpr ?_
       have hmk : maskN [6, 7, 8, 9] (setL L 3) = 7 := by simp only [maskN, setL, l6, l7, l8, l9] <;> rfl
       exact res_ok (x_fieldAddr (off := 1) rfl (e3) (by kernel_rfl) rfl) ⟨(0, undef), rfl, (by show Mem (List.getD _ (maskN [6, 7, 8, 9] (setL L 3)) []) _; rw [hmk]; exact hM)⟩
   ·
    intro L e w ρ hL0 hL1 hL2 hL3 hO E
    have l9 : L 9 = false := hL2 9 (Nat.le_of_ble_eq_true rfl) (by decide)
    cases l6 : L 6
    ·
     cases l7 : L 7
     ·
      cases l8 : L 8
      ·
       replace hO : Mem (List.getD _ (maskN [6, 7, 8, 9] L) []) w := hO
       rw [show maskN [6, 7, 8, 9] L = 0 from by simp only [maskN, l6, l7, l8, l9] <;> rfl] at hO
       have hM : Mem _ w := hO
       have e10 : ρ (.tmp 10) = .pointer (some ⟨b1_1, 1, none⟩) := E.d 3 _ 10 rfl rfl rfl
       refine (if_pos rfl).mpr ?_
       have hmk : maskN [6, 7, 8, 9] (setL L 4) = 0 := by simp only [maskN, setL, l6, l7, l8, l9] <;> rfl
       exact res_ok (x_fieldAddr (off := 4) rfl (e10) (by kernel_rfl) rfl) ⟨(0, undef), rfl, (by show Mem (List.getD _ (maskN [6, 7, 8, 9] (setL L 4)) []) _; rw [hmk]; exact hM)⟩
      ·
       exact absurd (hL3 8 (Nat.le_of_ble_eq_true rfl) l8 6 (by decide)) (by rw [l6]; decide)
     ·
      cases l8 : L 8
      ·
       replace hO : Mem (List.getD _ (maskN [6, 7, 8, 9] L) []) w := hO
       rw [show maskN [6, 7, 8, 9] L = 2 from by simp only [maskN, l6, l7, l8, l9] <;> rfl] at hO
       have hM : Mem _ w := hO
       have e10 : ρ (.tmp 10) = .pointer (some ⟨b1_1, 1, none⟩) := E.d 3 _ 10 rfl rfl rfl
       refine (if_pos rfl).mpr ?_
       have hmk : maskN [6, 7, 8, 9] (setL L 4) = 2 := by simp only [maskN, setL, l6, l7, l8, l9] <;> rfl
       exact res_ok (x_fieldAddr (off := 4) rfl (e10) (by kernel_rfl) rfl) ⟨(0, undef), rfl, (by show Mem (List.getD _ (maskN [6, 7, 8, 9] (setL L 4)) []) _; rw [hmk]; exact hM)⟩
      ·
       exact absurd (hL3 8 (Nat.le_of_ble_eq_true rfl) l8 6 (by decide)) (by rw [l6]; decide)
    ·
     cases l7 : L 7
     ·
      cases l8 : L 8
      ·
       replace hO : Mem (List.getD _ (maskN [6, 7, 8, 9] L) []) w := hO
       rw [show maskN [6, 7, 8, 9] L = 1 from by simp only [maskN, l6, l7, l8, l9] <;> rfl] at hO
       have hM : Mem _ w := hO
       have e10 : ρ (.tmp 10) = .pointer (some ⟨b1_1, 1, none⟩) := E.d 3 _ 10 rfl rfl rfl
       refine (if_pos rfl).mpr ?_
       have hmk : maskN [6, 7, 8, 9] (setL L 4) = 1 := by simp only [maskN, setL, l6, l7, l8, l9] <;> rfl
       exact res_ok (x_fieldAddr (off := 4) rfl (e10) (by kernel_rfl) rfl) ⟨(0, undef), rfl, (by show Mem (List.getD _ (maskN [6, 7, 8, 9] (setL L 4)) []) _; rw [hmk]; exact hM)⟩
      ·
       exact absurd (hL3 8 (Nat.le_of_ble_eq_true rfl) l8 7 (by decide)) (by rw [l7]; decide)
     ·
      cases l8 : L 8
      ·
       replace hO : Mem (List.getD _ (maskN [6, 7, 8, 9] L) []) w := hO
       rw [show maskN [6, 7, 8, 9] L = 3 from by simp only [maskN, l6, l7, l8, l9] <;> rfl] at hO
       have hM : Mem _ w := hO
       have e10 : ρ (.tmp 10) = .pointer (some ⟨b1_1, 1, none⟩) := E.d 3 _ 10 rfl rfl rfl
       refine (if_pos rfl).mpr ?_
       have hmk : maskN [6, 7, 8, 9] (setL L 4) = 3 := by simp only [maskN, setL, l6, l7, l8, l9] <;> rfl
       exact res_ok (x_fieldAddr (off := 4) rfl (e10) (by kernel_rfl) rfl) ⟨(0, undef), rfl, (by show Mem (List.getD _ (maskN [6, 7, 8, 9] (setL L 4)) []) _; rw [hmk]; exact hM)⟩
      ·
       replace hO : Mem (List.getD _ (maskN [6, 7, 8, 9] L) []) w := hO
       rw [show maskN [6, 7, 8, 9] L = 7 from by simp only [maskN, l6, l7, l8, l9] <;> rfl] at hO
       have hM : Mem _ w := hO
       have e10 : ρ (.tmp 10) = .pointer (some ⟨b1_1, 1, none⟩) := E.d 3 _ 10 rfl rfl rfl
       refine (if_pos rfl).mpr ?_
       have hmk : maskN [6, 7, 8, 9] (setL L 4) = 7 := by simp only [maskN, setL, l6, l7, l8, l9] <;> rfl
       exact res_ok (x_fieldAddr (off := 4) rfl (e10) (by kernel_rfl) rfl) ⟨(0, undef), rfl, (by show Mem (List.getD _ (maskN [6, 7, 8, 9] (setL L 4)) []) _; rw [hmk]; exact hM)⟩
   ·
    intro L e w ρ hL0 hL1 hL2 hL3 hO E
    have l9 : L 9 = false := hL2 9 (Nat.le_of_ble_eq_true rfl) (by decide)
    cases l6 : L 6
    ·
     cases l7 : L 7
     ·
      cases l8 : L 8
      ·
       replace hO : Mem (List.getD _ (maskN [6, 7, 8, 9] L) []) w := hO
       rw [show maskN [6, 7, 8, 9] L = 0 from by simp only [maskN, l6, l7, l8, l9] <;> rfl] at hO
       have hM : Mem _ w := hO
       have e11 : ρ (.tmp 11) = .pointer (some ⟨b1_1, 5, none⟩) := E.d 4 _ 11 rfl rfl rfl
       refine (if_pos rfl).mpr ?_
       have hmk : maskN [6, 7, 8, 9] (setL L 5) = 0 := by simp only [maskN, setL, l6, l7, l8, l9] <;> rfl
       exact res_ok (x_loads rfl (e11) (by kernel_rfl) (load_part (hM.box 0 rfl) [.string b.cmd.name, .slice al2 b.cmd.legs.length cl2, .int .i64 b.cmd.fare, .slice at2 b.cmd.taxes.length ct2, .int .i64 b.cmd.penalty] rfl (Nat.le_of_ble_eq_true rfl) rfl)) ⟨(0, undef), rfl, (by show Mem (List.getD _ (maskN [6, 7, 8, 9] (setL L 5)) []) _; rw [hmk]; exact hM)⟩
      ·
       exact absurd (hL3 8 (Nat.le_of_ble_eq_true rfl) l8 6 (by decide)) (by rw [l6]; decide)
     ·
      cases l8 : L 8
      ·
       replace hO : Mem (List.getD _ (maskN [6, 7, 8, 9] L) []) w := hO
       rw [show maskN [6, 7, 8, 9] L = 2 from by simp only [maskN, l6, l7, l8, l9] <;> rfl] at hO
       have hM : Mem _ w := hO
       have e11 : ρ (.tmp 11) = .pointer (some ⟨b1_1, 5, none⟩) := E.d 4 _ 11 rfl rfl rfl
       refine (if_pos rfl).mpr ?_
       have hmk : maskN [6, 7, 8, 9] (setL L 5) = 2 := by simp only [maskN, setL, l6, l7, l8, l9] <;> rfl
       exact res_ok (x_loads rfl (e11) (by kernel_rfl) (load_part (hM.box 1 rfl) [.string b.cmd.name, .slice al2 b.cmd.legs.length cl2, .int .i64 b.cmd.fare, .slice at2 b.cmd.taxes.length ct2, .int .i64 b.cmd.penalty] rfl (Nat.le_of_ble_eq_true rfl) rfl)) ⟨(0, undef), rfl, (by show Mem (List.getD _ (maskN [6, 7, 8, 9] (setL L 5)) []) _; rw [hmk]; exact hM)⟩
      ·
       exact absurd (hL3 8 (Nat.le_of_ble_eq_true rfl) l8 6 (by decide)) (by rw [l6]; decide)
    ·
     cases l7 : L 7
     ·
      cases l8 : L 8
      ·
       replace hO : Mem (List.getD _ (maskN [6, 7, 8, 9] L) []) w := hO
       rw [show maskN [6, 7, 8, 9] L = 1 from by simp only [maskN, l6, l7, l8, l9] <;> rfl] at hO
       have hM : Mem _ w := hO
       have e11 : ρ (.tmp 11) = .pointer (some ⟨b1_1, 5, none⟩) := E.d 4 _ 11 rfl rfl rfl
       refine (if_pos rfl).mpr ?_
       have hmk : maskN [6, 7, 8, 9] (setL L 5) = 1 := by simp only [maskN, setL, l6, l7, l8, l9] <;> rfl
       exact res_ok (x_loads rfl (e11) (by kernel_rfl) (load_part (hM.box 1 rfl) [.string b.cmd.name, .slice al2 b.cmd.legs.length cl2, .int .i64 b.cmd.fare, .slice at2 b.cmd.taxes.length ct2, .int .i64 b.cmd.penalty] rfl (Nat.le_of_ble_eq_true rfl) rfl)) ⟨(0, undef), rfl, (by show Mem (List.getD _ (maskN [6, 7, 8, 9] (setL L 5)) []) _; rw [hmk]; exact hM)⟩
      ·
       exact absurd (hL3 8 (Nat.le_of_ble_eq_true rfl) l8 7 (by decide)) (by rw [l7]; decide)
     ·
      cases l8 : L 8
      ·
       replace hO : Mem (List.getD _ (maskN [6, 7, 8, 9] L) []) w := hO
       rw [show maskN [6, 7, 8, 9] L = 3 from by simp only [maskN, l6, l7, l8, l9] <;> rfl] at hO
       have hM : Mem _ w := hO
       have e11 : ρ (.tmp 11) = .pointer (some ⟨b1_1, 5, none⟩) := E.d 4 _ 11 rfl rfl rfl
       refine (if_pos rfl).mpr ?_
       have hmk : maskN [6, 7, 8, 9] (setL L 5) = 3 := by simp only [maskN, setL, l6, l7, l8, l9] <;> rfl
       exact res_ok (x_loads rfl (e11) (by kernel_rfl) (load_part (hM.box 2 rfl) [.string b.cmd.name, .slice al2 b.cmd.legs.length cl2, .int .i64 b.cmd.fare, .slice at2 b.cmd.taxes.length ct2, .int .i64 b.cmd.penalty] rfl (Nat.le_of_ble_eq_true rfl) rfl)) ⟨(0, undef), rfl, (by show Mem (List.getD _ (maskN [6, 7, 8, 9] (setL L 5)) []) _; rw [hmk]; exact hM)⟩
      ·
       replace hO : Mem (List.getD _ (maskN [6, 7, 8, 9] L) []) w := hO
       rw [show maskN [6, 7, 8, 9] L = 7 from by simp only [maskN, l6, l7, l8, l9] <;> rfl] at hO
       have hM : Mem _ w := hO
       have e11 : ρ (.tmp 11) = .pointer (some ⟨b1_1, 5, none⟩) := E.d 4 _ 11 rfl rfl rfl
       refine (if_pos rfl).mpr ?_
       have hmk : maskN [6, 7, 8, 9] (setL L 5) = 7 := by simp only [maskN, setL, l6, l7, l8, l9] <;> rfl
       exact res_ok (x_loads rfl (e11) (by kernel_rfl) (load_part (hM.box 2 rfl) [.string b.cmd.name, .slice al2 b.cmd.legs.length cl2, .int .i64 b.cmd.fare, .slice at2 b.cmd.taxes.length ct2, .int .i64 b.cmd.penalty] rfl (Nat.le_of_ble_eq_true rfl) rfl)) ⟨(0, undef), rfl, (by show Mem (List.getD _ (maskN [6, 7, 8, 9] (setL L 5)) []) _; rw [hmk]; exact hM)⟩
   ·
    intro L e w ρ hL0 hL1 hL2 hL3 hO E
    have l6 := hL0
    have l8 : L 8 = false := hL2 8 (Nat.le_of_ble_eq_true rfl) (by decide)
    have l9 : L 9 = false := hL2 9 (Nat.le_of_ble_eq_true rfl) (by decide)
    cases l7 : L 7
    ·
     replace hO : Mem (List.getD _ (maskN [6, 7, 8, 9] L) []) w := hO
     rw [show maskN [6, 7, 8, 9] L = 0 from by simp only [maskN, l6, l7, l8, l9] <;> rfl] at hO
     have hM : Mem (boxC b1_1 (recCells b (.slice al2 b.cmd.legs.length cl2) (.slice at2 b.cmd.taxes.length ct2)) :: boxC b1_0 (recCells a (.slice al1 a.cmd.legs.length cl1) (.slice at1 a.cmd.taxes.length ct1)) :: R) w := hO
     refine (if_pos rfl).mpr ?_
     have hmk : maskN [6, 7, 8, 9] (setL L 6) = 1 := by simp only [maskN, setL, l6, l7, l8, l9] <;> rfl
     exact res_ok (x_alloc (z := .agg #[.string ByteArray.empty, .slice none 0 0, .int .i64 0, .slice none 0 0, .int .i64 0]) rfl (by kernel_rfl)) ⟨(w.heap.size, undef), rfl, (by show Mem (List.getD _ (maskN [6, 7, 8, 9] (setL L 6)) []) _; rw [hmk]; exact (hM.alloc _ _))⟩
    ·
     replace hO : Mem (List.getD _ (maskN [6, 7, 8, 9] L) []) w := hO
     rw [show maskN [6, 7, 8, 9] L = 2 from by simp only [maskN, l6, l7, l8, l9] <;> rfl] at hO
     have hM : Mem (boxC ((e 7).1) #[.string ByteArray.empty, .slice none 0 0, .int .i64 0, .slice none 0 0, .int .i64 0] :: boxC b1_1 (recCells b (.slice al2 b.cmd.legs.length cl2) (.slice at2 b.cmd.taxes.length ct2)) :: boxC b1_0 (recCells a (.slice al1 a.cmd.legs.length cl1) (.slice at1 a.cmd.taxes.length ct1)) :: R) w := hO
     refine (if_pos rfl).mpr ?_
     have hmk : maskN [6, 7, 8, 9] (setL L 6) = 3 := by simp only [maskN, setL, l6, l7, l8, l9] <;> rfl
     exact res_ok (x_alloc (z := .agg #[.string ByteArray.empty, .slice none 0 0, .int .i64 0, .slice none 0 0, .int .i64 0]) rfl (by kernel_rfl)) ⟨(w.heap.size, undef), rfl, (by show Mem (List.getD _ (maskN [6, 7, 8, 9] (setL L 6)) []) _; rw [hmk]; exact (((((hM.alloc _ _)).front 3 rfl).front 3 rfl).front 2 rfl).front 3 rfl)⟩
   ·
    intro L e w ρ hL0 hL1 hL2 hL3 hO E
    have l7 := hL0
    have l8 : L 8 = false := hL2 8 (Nat.le_of_ble_eq_true rfl) (by decide)
    have l9 : L 9 = false := hL2 9 (Nat.le_of_ble_eq_true rfl) (by decide)
    cases l6 : L 6
    ·
     replace hO : Mem (List.getD _ (maskN [6, 7, 8, 9] L) []) w := hO
     rw [show maskN [6, 7, 8, 9] L = 0 from by simp only [maskN, l6, l7, l8, l9] <;> rfl] at hO
     have hM : Mem (boxC b1_1 (recCells b (.slice al2 b.cmd.legs.length cl2) (.slice at2 b.cmd.taxes.length ct2)) :: boxC b1_0 (recCells a (.slice al1 a.cmd.legs.length cl1) (.slice at1 a.cmd.taxes.length ct1)) :: R) w := hO
     refine (if_pos rfl).mpr ?_
     have hmk : maskN [6, 7, 8, 9] (setL L 7) = 2 := by simp only [maskN, setL, l6, l7, l8, l9] <;> rfl
     exact res_ok (x_alloc (z := .agg #[.string ByteArray.empty, .slice none 0 0, .int .i64 0, .slice none 0 0, .int .i64 0]) rfl (by kernel_rfl)) ⟨(w.heap.size, undef), rfl, (by show Mem (List.getD _ (maskN [6, 7, 8, 9] (setL L 7)) []) _; rw [hmk]; exact (hM.alloc _ _))⟩
    ·
     replace hO : Mem (List.getD _ (maskN [6, 7, 8, 9] L) []) w := hO
     rw [show maskN [6, 7, 8, 9] L = 1 from by simp only [maskN, l6, l7, l8, l9] <;> rfl] at hO
     have hM : Mem (boxC ((e 6).1) #[.string ByteArray.empty, .slice none 0 0, .int .i64 0, .slice none 0 0, .int .i64 0] :: boxC b1_1 (recCells b (.slice al2 b.cmd.legs.length cl2) (.slice at2 b.cmd.taxes.length ct2)) :: boxC b1_0 (recCells a (.slice al1 a.cmd.legs.length cl1) (.slice at1 a.cmd.taxes.length ct1)) :: R) w := hO
     refine (if_pos rfl).mpr ?_
     have hmk : maskN [6, 7, 8, 9] (setL L 7) = 3 := by simp only [maskN, setL, l6, l7, l8, l9] <;> rfl
     exact res_ok (x_alloc (z := .agg #[.string ByteArray.empty, .slice none 0 0, .int .i64 0, .slice none 0 0, .int .i64 0]) rfl (by kernel_rfl)) ⟨(w.heap.size, undef), rfl, (by show Mem (List.getD _ (maskN [6, 7, 8, 9] (setL L 7)) []) _; rw [hmk]; exact (hM.alloc _ _))⟩
   ·
    intro L e w ρ hL0 hL1 hL2 hL3 hO E
    have l6 : L 6 = true := hL1 6 (by decide)
    have l7 : L 7 = true := hL1 7 (by decide)
    have l8 := hL0
    have l9 : L 9 = false := hL2 9 (Nat.le_of_ble_eq_true rfl) (by decide)
    replace hO : Mem (List.getD _ (maskN [6, 7, 8, 9] L) []) w := hO
    rw [show maskN [6, 7, 8, 9] L = 3 from by simp only [maskN, l6, l7, l8, l9] <;> rfl] at hO
    have hM : Mem (boxC ((e 7).1) #[.string ByteArray.empty, .slice none 0 0, .int .i64 0, .slice none 0 0, .int .i64 0] :: boxC ((e 6).1) #[.string ByteArray.empty, .slice none 0 0, .int .i64 0, .slice none 0 0, .int .i64 0] :: boxC b1_1 (recCells b (.slice al2 b.cmd.legs.length cl2) (.slice at2 b.cmd.taxes.length ct2)) :: boxC b1_0 (recCells a (.slice al1 a.cmd.legs.length cl1) (.slice at1 a.cmd.taxes.length ct1)) :: R) w := hO
    have e5 : ρ (.tmp 5) = .pointer (some ⟨(e 6).1, 0, none⟩) := E.d 6 _ 5 rfl rfl rfl
    have e9 : ρ (.tmp 9) = .agg #[.string a.cmd.name, .slice al1 a.cmd.legs.length cl1, .int .i64 a.cmd.fare, .slice at1 a.cmd.taxes.length ct1, .int .i64 a.cmd.penalty] := E.d 2 _ 9 rfl rfl rfl
    refine (if_pos rfl).mpr ?_
    have hmk : maskN [6, 7, 8, 9] (setL L 8) = 7 := by simp only [maskN, setL, l6, l7, l8, l9] <;> rfl
    obtain ⟨w', hr, hm⟩ := Mem.store (P := Try.prog) hM 1 rfl 28 0 (.agg #[.string a.cmd.name, .slice al1 a.cmd.legs.length cl1, .int .i64 a.cmd.fare, .slice at1 a.cmd.taxes.length ct1, .int .i64 a.cmd.penalty]) [.string a.cmd.name, .slice al1 a.cmd.legs.length cl1, .int .i64 a.cmd.fare, .slice at1 a.cmd.taxes.length ct1, .int .i64 a.cmd.penalty] rfl (by kernel_rfl) (Nat.le_of_ble_eq_true rfl) (by rfl)
    exact res_st (x_store rfl (e5) (e9) hr) ⟨(0, undef), rfl, (by show Mem (List.getD _ (maskN [6, 7, 8, 9] (setL L 8)) []) _; rw [hmk]; exact hm)⟩
   ·
    intro L e w ρ hL0 hL1 hL2 hL3 hO E
    have l6 : L 6 = true := hL1 6 (by decide)
    have l7 : L 7 = true := hL1 7 (by decide)
    have l8 : L 8 = true := hL1 8 (by decide)
    have l9 := hL0
    replace hO : Mem (List.getD _ (maskN [6, 7, 8, 9] L) []) w := hO
    rw [show maskN [6, 7, 8, 9] L = 7 from by simp only [maskN, l6, l7, l8, l9] <;> rfl] at hO
    have hM : Mem (boxC ((e 7).1) #[.string ByteArray.empty, .slice none 0 0, .int .i64 0, .slice none 0 0, .int .i64 0] :: boxC ((e 6).1) #[.string a.cmd.name, .slice al1 a.cmd.legs.length cl1, .int .i64 a.cmd.fare, .slice at1 a.cmd.taxes.length ct1, .int .i64 a.cmd.penalty] :: boxC b1_1 (recCells b (.slice al2 b.cmd.legs.length cl2) (.slice at2 b.cmd.taxes.length ct2)) :: boxC b1_0 (recCells a (.slice al1 a.cmd.legs.length cl1) (.slice at1 a.cmd.taxes.length ct1)) :: R) w := hO
    have e6 : ρ (.tmp 6) = .pointer (some ⟨(e 7).1, 0, none⟩) := E.d 7 _ 6 rfl rfl rfl
    have e12 : ρ (.tmp 12) = .agg #[.string b.cmd.name, .slice al2 b.cmd.legs.length cl2, .int .i64 b.cmd.fare, .slice at2 b.cmd.taxes.length ct2, .int .i64 b.cmd.penalty] := E.d 5 _ 12 rfl rfl rfl
    refine (if_pos rfl).mpr ?_
    have hmk : maskN [6, 7, 8, 9] (setL L 9) = 15 := by simp only [maskN, setL, l6, l7, l8, l9] <;> rfl
    obtain ⟨w', hr, hm⟩ := Mem.store (P := Try.prog) hM 0 rfl 28 0 (.agg #[.string b.cmd.name, .slice al2 b.cmd.legs.length cl2, .int .i64 b.cmd.fare, .slice at2 b.cmd.taxes.length ct2, .int .i64 b.cmd.penalty]) [.string b.cmd.name, .slice al2 b.cmd.legs.length cl2, .int .i64 b.cmd.fare, .slice at2 b.cmd.taxes.length ct2, .int .i64 b.cmd.penalty] rfl (by kernel_rfl) (Nat.le_of_ble_eq_true rfl) (by rfl)
    exact res_st (x_store rfl (e6) (e12) hr) ⟨(0, undef), rfl, (by show Mem (List.getD _ (maskN [6, 7, 8, 9] (setL L 9)) []) _; rw [hmk]; exact hm)⟩
  ·
   intro e a2 w2 hz2 hd hG hO hM
   have hd2 := hd.trans hd1
   have g2_2 := (hO 2 rfl).trans g2_1
   have g3_2 := (hO 3 rfl).trans g3_1
   have g4_2 := (hO 4 rfl).trans g4_1
   have g5_2 : a2.tmps[5]? = some (.pointer (some ⟨(e 6).1, 0, none⟩)) := hG 6 _ 5 rfl rfl
   have g6_2 : a2.tmps[6]? = some (.pointer (some ⟨(e 7).1, 0, none⟩)) := hG 7 _ 6 rfl rfl
   have hM2 : Mem (boxC ((e 7).1) #[.string b.cmd.name, .slice al2 b.cmd.legs.length cl2, .int .i64 b.cmd.fare, .slice at2 b.cmd.taxes.length ct2, .int .i64 b.cmd.penalty] :: boxC ((e 6).1) #[.string a.cmd.name, .slice al1 a.cmd.legs.length cl1, .int .i64 a.cmd.fare, .slice at1 a.cmd.taxes.length ct1, .int .i64 a.cmd.penalty] :: boxC b1_1 (recCells b (.slice al2 b.cmd.legs.length cl2) (.slice at2 b.cmd.taxes.length ct2)) :: boxC b1_0 (recCells a (.slice al1 a.cmd.legs.length cl1) (.slice at1 a.cmd.taxes.length ct1)) :: R) w2 := hM
   clear hM hG hO hd
   clear hz1 hd1 hM1 g2_1 g3_1 g4_1
   generalize (e 6).1 = b2_6 at *
   generalize (e 7).1 = b2_7 at *
   refine then_n ?_
   refine wp_seq ?_
   obtain ⟨z2_5, hz2_5⟩ : ∃ z : Bool, z = (decide (a.kind = b.kind)) := ⟨_, rfl⟩
   obtain ⟨z2_12, hz2_12⟩ : ∃ z : Bool, z = (z2_5 && (decide (a.frm = b.frm))) := ⟨_, rfl⟩
   obtain ⟨z2_19, hz2_19⟩ : ∃ z : Bool, z = (z2_12 && (decide (a.number = b.number))) := ⟨_, rfl⟩
   obtain ⟨z2_26, hz2_26⟩ : ∃ z : Bool, z = (z2_19 && (msgB a.msg b.msg)) := ⟨_, rfl⟩
   obtain ⟨z2_35, hz2_35⟩ : ∃ z : Bool, z = (z2_26 && (decide (a.cmd.kind = b.cmd.kind))) := ⟨_, rfl⟩
   obtain ⟨z2_44, hz2_44⟩ : ∃ z : Bool, z = (z2_35 && (tickB a.cmd.tick b.cmd.tick)) := ⟨_, rfl⟩
   obtain ⟨z2_53, hz2_53⟩ : ∃ z : Bool, z = (z2_44 && (decide (a.cmd.at_ = b.cmd.at_))) := ⟨_, rfl⟩
   obtain ⟨z2_62, hz2_62⟩ : ∃ z : Bool, z = (z2_53 && (decide (a.cmd.amount = b.cmd.amount))) := ⟨_, rfl⟩
   obtain ⟨z2_69, hz2_69⟩ : ∃ z : Bool, z = (z2_62 && (decide (a.cmd.name = b.cmd.name))) := ⟨_, rfl⟩
   obtain ⟨z2_76, hz2_76⟩ : ∃ z : Bool, z = (z2_69 && (listB legB a.cmd.legs b.cmd.legs)) := ⟨_, rfl⟩
   obtain ⟨z2_83, hz2_83⟩ : ∃ z : Bool, z = (z2_76 && (decide (a.cmd.fare = b.cmd.fare))) := ⟨_, rfl⟩
   obtain ⟨z2_90, hz2_90⟩ : ∃ z : Bool, z = (z2_83 && (listB taxB a.cmd.taxes b.cmd.taxes)) := ⟨_, rfl⟩
   refine region_seq 110 (fun zz e => (#[.pointer (some ⟨b1_0, 0, none⟩), .int .u8 a.kind, .pointer (some ⟨b1_1, 0, none⟩), .int .u8 b.kind, .bool (decide (a.kind = b.kind)), .bool z2_5, (gd z2_5 true (.pointer (some ⟨b1_0, 11, none⟩))), (gd z2_5 true (.int .u8 a.frm)), (gd z2_5 true (.pointer (some ⟨b1_1, 11, none⟩))), (gd z2_5 true (.int .u8 b.frm)), (gd z2_5 true (.bool (decide (a.frm = b.frm)))), .bool (z2_5 && (decide (a.frm = b.frm))), .bool z2_12, (gd z2_12 true (.pointer (some ⟨b1_0, 12, none⟩))), (gd z2_12 true (.int .u64 a.number)), (gd z2_12 true (.pointer (some ⟨b1_1, 12, none⟩))), (gd z2_12 true (.int .u64 b.number)), (gd z2_12 true (.bool (decide (a.number = b.number)))), .bool (z2_12 && (decide (a.number = b.number))), .bool z2_19, (gd z2_19 true (.pointer (some ⟨b1_0, 13, none⟩))), (gd z2_19 true (.agg #[.int .u8 a.msg.kind, .int .u8 a.msg.tick.c, .int .u64 a.msg.tick.r, .int .u8 a.msg.at_, .int .u8 a.msg.leg.c, .int .u16 a.msg.leg.f, .int .u32 a.msg.leg.x, .int .i64 a.msg.value, .int .u8 a.msg.status, .int .u32 a.msg.nonce, .int .i64 a.msg.amount, .int .i64 a.msg.code])), (gd z2_19 true (.pointer (some ⟨b1_1, 13, none⟩))), (gd z2_19 true (.agg #[.int .u8 b.msg.kind, .int .u8 b.msg.tick.c, .int .u64 b.msg.tick.r, .int .u8 b.msg.at_, .int .u8 b.msg.leg.c, .int .u16 b.msg.leg.f, .int .u32 b.msg.leg.x, .int .i64 b.msg.value, .int .u8 b.msg.status, .int .u32 b.msg.nonce, .int .i64 b.msg.amount, .int .i64 b.msg.code])), (gd z2_19 true (.bool (msgB a.msg b.msg))), .bool (z2_19 && (msgB a.msg b.msg)), .bool z2_26, (gd z2_26 true (.pointer (some ⟨b1_0, 1, none⟩))), (gd z2_26 true (.pointer (some ⟨b1_0, 1, none⟩))), (gd z2_26 true (.int .u8 a.cmd.kind)), (gd z2_26 true (.pointer (some ⟨b1_1, 1, none⟩))), (gd z2_26 true (.pointer (some ⟨b1_1, 1, none⟩))), (gd z2_26 true (.int .u8 b.cmd.kind)), (gd z2_26 true (.bool (decide (a.cmd.kind = b.cmd.kind)))), .bool (z2_26 && (decide (a.cmd.kind = b.cmd.kind))), .bool z2_35, (gd z2_35 true (.pointer (some ⟨b1_0, 1, none⟩))), (gd z2_35 true (.pointer (some ⟨b1_0, 2, none⟩))), (gd z2_35 true (.agg #[.int .u8 a.cmd.tick.c, .int .u64 a.cmd.tick.r])), (gd z2_35 true (.pointer (some ⟨b1_1, 1, none⟩))), (gd z2_35 true (.pointer (some ⟨b1_1, 2, none⟩))), (gd z2_35 true (.agg #[.int .u8 b.cmd.tick.c, .int .u64 b.cmd.tick.r])), (gd z2_35 true (.bool (tickB a.cmd.tick b.cmd.tick))), .bool (z2_35 && (tickB a.cmd.tick b.cmd.tick)), .bool z2_44, (gd z2_44 true (.pointer (some ⟨b1_0, 1, none⟩))), (gd z2_44 true (.pointer (some ⟨b1_0, 4, none⟩))), (gd z2_44 true (.int .u8 a.cmd.at_)), (gd z2_44 true (.pointer (some ⟨b1_1, 1, none⟩))), (gd z2_44 true (.pointer (some ⟨b1_1, 4, none⟩))), (gd z2_44 true (.int .u8 b.cmd.at_)), (gd z2_44 true (.bool (decide (a.cmd.at_ = b.cmd.at_)))), .bool (z2_44 && (decide (a.cmd.at_ = b.cmd.at_))), .bool z2_53, (gd z2_53 true (.pointer (some ⟨b1_0, 1, none⟩))), (gd z2_53 true (.pointer (some ⟨b1_0, 10, none⟩))), (gd z2_53 true (.int .i64 a.cmd.amount)), (gd z2_53 true (.pointer (some ⟨b1_1, 1, none⟩))), (gd z2_53 true (.pointer (some ⟨b1_1, 10, none⟩))), (gd z2_53 true (.int .i64 b.cmd.amount)), (gd z2_53 true (.bool (decide (a.cmd.amount = b.cmd.amount)))), .bool (z2_53 && (decide (a.cmd.amount = b.cmd.amount))), .bool z2_62, (gd z2_62 true (.pointer (some ⟨b2_6, 0, none⟩))), (gd z2_62 true (.string a.cmd.name)), (gd z2_62 true (.pointer (some ⟨b2_7, 0, none⟩))), (gd z2_62 true (.string b.cmd.name)), (gd z2_62 true (.bool (decide (a.cmd.name = b.cmd.name)))), .bool (z2_62 && (decide (a.cmd.name = b.cmd.name))), .bool z2_69, (gd z2_69 true (.pointer (some ⟨b2_6, 1, none⟩))), (gd z2_69 true (.slice al1 a.cmd.legs.length cl1)), (gd z2_69 true (.pointer (some ⟨b2_7, 1, none⟩))), (gd z2_69 true (.slice al2 b.cmd.legs.length cl2)), (gd z2_69 true (.bool (listB legB a.cmd.legs b.cmd.legs))), .bool (z2_69 && (listB legB a.cmd.legs b.cmd.legs)), .bool z2_76, (gd z2_76 true (.pointer (some ⟨b2_6, 2, none⟩))), (gd z2_76 true (.int .i64 a.cmd.fare)), (gd z2_76 true (.pointer (some ⟨b2_7, 2, none⟩))), (gd z2_76 true (.int .i64 b.cmd.fare)), (gd z2_76 true (.bool (decide (a.cmd.fare = b.cmd.fare)))), .bool (z2_76 && (decide (a.cmd.fare = b.cmd.fare))), .bool z2_83, (gd z2_83 true (.pointer (some ⟨b2_6, 3, none⟩))), (gd z2_83 true (.slice at1 a.cmd.taxes.length ct1)), (gd z2_83 true (.pointer (some ⟨b2_7, 3, none⟩))), (gd z2_83 true (.slice at2 b.cmd.taxes.length ct2)), (gd z2_83 true (.bool (listB taxB a.cmd.taxes b.cmd.taxes))), .bool (z2_83 && (listB taxB a.cmd.taxes b.cmd.taxes)), .bool z2_90, (gd z2_90 true (.pointer (some ⟨b2_6, 4, none⟩))), (gd z2_90 true (.int .i64 a.cmd.penalty)), (gd z2_90 true (.pointer (some ⟨b2_7, 4, none⟩))), (gd z2_90 true (.int .i64 b.cmd.penalty)), (gd z2_90 true (.bool (decide (a.cmd.penalty = b.cmd.penalty)))), .bool (z2_90 && (decide (a.cmd.penalty = b.cmd.penalty))), .bool (z2_90 && (decide (a.cmd.penalty = b.cmd.penalty)))] : Array Value).getD zz undef) (fun k e w => Mem (List.getD [boxC b2_7 #[.string b.cmd.name, .slice al2 b.cmd.legs.length cl2, .int .i64 b.cmd.fare, .slice at2 b.cmd.taxes.length ct2, .int .i64 b.cmd.penalty] :: boxC b2_6 #[.string a.cmd.name, .slice al1 a.cmd.legs.length cl1, .int .i64 a.cmd.fare, .slice at1 a.cmd.taxes.length ct1, .int .i64 a.cmd.penalty] :: boxC b1_1 (recCells b (.slice al2 b.cmd.legs.length cl2) (.slice at2 b.cmd.taxes.length ct2)) :: boxC b1_0 (recCells a (.slice al1 a.cmd.legs.length cl1) (.slice at1 a.cmd.taxes.length ct1)) :: R] k []) w) (fun _ => (0, undef)) [] [0, 0, 0, 0, 0, 0, 0, 0, 0, 0, 0, 0, 0, 0, 0, 0, 0, 0, 0, 0, 0, 0, 0, 0, 0, 0, 0, 0, 0, 0, 0, 0, 0, 0, 0, 0, 0, 0, 0, 0, 0, 0, 0, 0, 0, 0, 0, 0, 0, 0, 0, 0, 0, 0, 0, 0, 0, 0, 0, 0, 0, 0, 0, 0, 0, 0, 0, 0, 0, 0, 0, 0, 0, 0, 0, 0, 0, 0, 0, 0, 0, 0, 0, 0, 0, 0, 0, 0, 0, 0, 0, 0, 0, 0, 0, 0, 0, 0] (fun _ _ => false) hz2 (by kernel_rfl) (by kernel_rfl) (by kernel_rfl) ?_ (show Mem _ _ from hM2) ?_ ?_
   · exact ⟨fun _ _ _ => rfl, fun _ _ _ => rfl, fun _ _ _ => rfl, fun _ _ _ => rfl, fun _ _ _ => rfl, fun _ _ _ => rfl, fun _ _ _ => rfl, fun _ _ _ => rfl, fun _ _ _ => rfl, fun _ _ _ => rfl, fun _ _ _ => rfl, fun _ _ _ => rfl, fun _ _ _ => rfl, fun _ _ _ => rfl, fun _ _ _ => rfl, fun _ _ _ => rfl, fun _ _ _ => rfl, fun _ _ _ => rfl, fun _ _ _ => rfl, fun _ _ _ => rfl, fun _ _ _ => rfl, fun _ _ _ => rfl, fun _ _ _ => rfl, fun _ _ _ => rfl, fun _ _ _ => rfl, fun _ _ _ => rfl, fun _ _ _ => rfl, fun _ _ _ => rfl, fun _ _ _ => rfl, fun _ _ _ => rfl, fun _ _ _ => rfl, fun _ _ _ => rfl, fun _ _ _ => rfl, fun _ _ _ => rfl, fun _ _ _ => rfl, fun _ _ _ => rfl, fun _ _ _ => rfl, fun _ _ _ => rfl, fun _ _ _ => rfl, fun _ _ _ => rfl, fun _ _ _ => rfl, fun _ _ _ => rfl, fun _ _ _ => rfl, fun _ _ _ => rfl, fun _ _ _ => rfl, fun _ _ _ => rfl, fun _ _ _ => rfl, fun _ _ _ => rfl, fun _ _ _ => rfl, fun _ _ _ => rfl, fun _ _ _ => rfl, fun _ _ _ => rfl, fun _ _ _ => rfl, fun _ _ _ => rfl, fun _ _ _ => rfl, fun _ _ _ => rfl, fun _ _ _ => rfl, fun _ _ _ => rfl, fun _ _ _ => rfl, fun _ _ _ => rfl, fun _ _ _ => rfl, fun _ _ _ => rfl, fun _ _ _ => rfl, fun _ _ _ => rfl, fun _ _ _ => rfl, fun _ _ _ => rfl, fun _ _ _ => rfl, fun _ _ _ => rfl, fun _ _ _ => rfl, fun _ _ _ => rfl, fun _ _ _ => rfl, fun _ _ _ => rfl, fun _ _ _ => rfl, fun _ _ _ => rfl, fun _ _ _ => rfl, fun _ _ _ => rfl, fun _ _ _ => rfl, fun _ _ _ => rfl, fun _ _ _ => rfl, fun _ _ _ => rfl, fun _ _ _ => rfl, fun _ _ _ => rfl, fun _ _ _ => rfl, fun _ _ _ => rfl, fun _ _ _ => rfl, fun _ _ _ => rfl, fun _ _ _ => rfl, fun _ _ _ => rfl, fun _ _ _ => rfl, fun _ _ _ => rfl, fun _ _ _ => rfl, fun _ _ _ => rfl, fun _ _ _ => rfl, fun _ _ _ => rfl, fun _ _ _ => rfl, fun _ _ _ => rfl, fun _ _ _ => rfl, fun _ _ _ => rfl, trivial⟩
   ·
    refine ⟨?_, ?_, ?_, ?_, ?_, ?_, ?_, ?_, ?_, ?_, ?_, ?_, ?_, ?_, ?_, ?_, ?_, ?_, ?_, ?_, ?_, ?_, ?_, ?_, ?_, ?_, ?_, ?_, ?_, ?_, ?_, ?_, ?_, ?_, ?_, ?_, ?_, ?_, ?_, ?_, ?_, ?_, ?_, ?_, ?_, ?_, ?_, ?_, ?_, ?_, ?_, ?_, ?_, ?_, ?_, ?_, ?_, ?_, ?_, ?_, ?_, ?_, ?_, ?_, ?_, ?_, ?_, ?_, ?_, ?_, ?_, ?_, ?_, ?_, ?_, ?_, ?_, ?_, ?_, ?_, ?_, ?_, ?_, ?_, ?_, ?_, ?_, ?_, ?_, ?_, ?_, ?_, ?_, ?_, ?_, ?_, ?_, ?_, trivial⟩
    · exact op2 (a := 0) rfl fun e w ρ (hM : Mem _ w) E => res_ok (x_fieldAddr (off := 0) rfl (E.o 2 _ rfl g2_2) (by kernel_rfl) rfl) (goes_still rfl rfl hM)
    · exact op2 (a := 0) rfl fun e w ρ (hM : Mem _ w) E => res_ok (x_load rfl (E.d 0 _ 13 rfl rfl rfl) (by kernel_rfl) ((hM.box 3 rfl).cell 0 rfl)) (goes_still rfl rfl hM)
    · exact op2 (a := 0) rfl fun e w ρ (hM : Mem _ w) E => res_ok (x_fieldAddr (off := 0) rfl (E.o 3 _ rfl g3_2) (by kernel_rfl) rfl) (goes_still rfl rfl hM)
    · exact op2 (a := 0) rfl fun e w ρ (hM : Mem _ w) E => res_ok (x_load rfl (E.d 2 _ 15 rfl rfl rfl) (by kernel_rfl) ((hM.box 2 rfl).cell 0 rfl)) (goes_still rfl rfl hM)
    · exact op2 (a := 0) rfl fun e w ρ (hM : Mem _ w) E => res_ok (x_eql rfl (E.d 1 _ 14 rfl rfl rfl) (E.d 3 _ 16 rfl rfl rfl) rfl) (goes_still rfl rfl hM)
    · exact op2 (a := 0) rfl fun e w ρ (hM : Mem _ w) E => res_ok (x_move rfl (E.d 4 _ 17 rfl rfl rfl)) (goes_still rfl (congrArg Value.bool hz2_5.symm) hM)
    · exact op3 (a := 0) z2_5 rfl (fun _ => rfl) rfl (fun hC _ => (gd_no hC).symm) fun hC e w ρ (hM : Mem _ w) E => res_ok (x_fieldAddr (off := 11) rfl (E.o 2 _ rfl g2_2) (by kernel_rfl) rfl) (goes_still rfl (gd_yes hC).symm hM)
    · exact op3 (a := 0) z2_5 rfl (fun _ => rfl) rfl (fun hC _ => (gd_no hC).symm) fun hC e w ρ (hM : Mem _ w) E => res_ok (x_load rfl ((E.d 6 _ 19 rfl rfl rfl).trans (gd_yes hC)) (by kernel_rfl) ((hM.box 3 rfl).cell 11 rfl)) (goes_still rfl (gd_yes hC).symm hM)
    · exact op3 (a := 0) z2_5 rfl (fun _ => rfl) rfl (fun hC _ => (gd_no hC).symm) fun hC e w ρ (hM : Mem _ w) E => res_ok (x_fieldAddr (off := 11) rfl (E.o 3 _ rfl g3_2) (by kernel_rfl) rfl) (goes_still rfl (gd_yes hC).symm hM)
    · exact op3 (a := 0) z2_5 rfl (fun _ => rfl) rfl (fun hC _ => (gd_no hC).symm) fun hC e w ρ (hM : Mem _ w) E => res_ok (x_load rfl ((E.d 8 _ 21 rfl rfl rfl).trans (gd_yes hC)) (by kernel_rfl) ((hM.box 2 rfl).cell 11 rfl)) (goes_still rfl (gd_yes hC).symm hM)
    · exact op3 (a := 0) z2_5 rfl (fun _ => rfl) rfl (fun hC _ => (gd_no hC).symm) fun hC e w ρ (hM : Mem _ w) E => res_ok (x_eql rfl ((E.d 7 _ 20 rfl rfl rfl).trans (gd_yes hC)) ((E.d 9 _ 22 rfl rfl rfl).trans (gd_yes hC)) rfl) (goes_still rfl (gd_yes hC).symm hM)
    · exact op2 (a := 0) rfl fun e w ρ (hM : Mem _ w) E => res_ok (x_pickAnd rfl (E.d 5 _ 18 rfl rfl rfl) (fun hC => ((E.d 10 _ 23 rfl rfl rfl).trans (gd_t hC))) (E.c _)) (goes_still rfl rfl hM)
    · exact op2 (a := 0) rfl fun e w ρ (hM : Mem _ w) E => res_ok (x_move rfl (E.d 11 _ 24 rfl rfl rfl)) (goes_still rfl (congrArg Value.bool hz2_12.symm) hM)
    · exact op3 (a := 0) z2_12 rfl (fun _ => rfl) rfl (fun hC _ => (gd_no hC).symm) fun hC e w ρ (hM : Mem _ w) E => res_ok (x_fieldAddr (off := 12) rfl (E.o 2 _ rfl g2_2) (by kernel_rfl) rfl) (goes_still rfl (gd_yes hC).symm hM)
    · exact op3 (a := 0) z2_12 rfl (fun _ => rfl) rfl (fun hC _ => (gd_no hC).symm) fun hC e w ρ (hM : Mem _ w) E => res_ok (x_load rfl ((E.d 13 _ 26 rfl rfl rfl).trans (gd_yes hC)) (by kernel_rfl) ((hM.box 3 rfl).cell 12 rfl)) (goes_still rfl (gd_yes hC).symm hM)
    · exact op3 (a := 0) z2_12 rfl (fun _ => rfl) rfl (fun hC _ => (gd_no hC).symm) fun hC e w ρ (hM : Mem _ w) E => res_ok (x_fieldAddr (off := 12) rfl (E.o 3 _ rfl g3_2) (by kernel_rfl) rfl) (goes_still rfl (gd_yes hC).symm hM)
    · exact op3 (a := 0) z2_12 rfl (fun _ => rfl) rfl (fun hC _ => (gd_no hC).symm) fun hC e w ρ (hM : Mem _ w) E => res_ok (x_load rfl ((E.d 15 _ 28 rfl rfl rfl).trans (gd_yes hC)) (by kernel_rfl) ((hM.box 2 rfl).cell 12 rfl)) (goes_still rfl (gd_yes hC).symm hM)
    · exact op3 (a := 0) z2_12 rfl (fun _ => rfl) rfl (fun hC _ => (gd_no hC).symm) fun hC e w ρ (hM : Mem _ w) E => res_ok (x_eql rfl ((E.d 14 _ 27 rfl rfl rfl).trans (gd_yes hC)) ((E.d 16 _ 29 rfl rfl rfl).trans (gd_yes hC)) rfl) (goes_still rfl (gd_yes hC).symm hM)
    · exact op2 (a := 0) rfl fun e w ρ (hM : Mem _ w) E => res_ok (x_pickAnd rfl (E.d 12 _ 25 rfl rfl rfl) (fun hC => ((E.d 17 _ 30 rfl rfl rfl).trans (gd_t hC))) (E.c _)) (goes_still rfl rfl hM)
    · exact op2 (a := 0) rfl fun e w ρ (hM : Mem _ w) E => res_ok (x_move rfl (E.d 18 _ 31 rfl rfl rfl)) (goes_still rfl (congrArg Value.bool hz2_19.symm) hM)
    · exact op3 (a := 0) z2_19 rfl (fun _ => rfl) rfl (fun hC _ => (gd_no hC).symm) fun hC e w ρ (hM : Mem _ w) E => res_ok (x_fieldAddr (off := 13) rfl (E.o 2 _ rfl g2_2) (by kernel_rfl) rfl) (goes_still rfl (gd_yes hC).symm hM)
    · exact op3 (a := 0) z2_19 rfl (fun _ => rfl) rfl (fun hC _ => (gd_no hC).symm) fun hC e w ρ (hM : Mem _ w) E => res_ok (x_loads rfl ((E.d 20 _ 33 rfl rfl rfl).trans (gd_yes hC)) (by kernel_rfl) (load_part (hM.box 3 rfl) [.int .u8 a.msg.kind, .int .u8 a.msg.tick.c, .int .u64 a.msg.tick.r, .int .u8 a.msg.at_, .int .u8 a.msg.leg.c, .int .u16 a.msg.leg.f, .int .u32 a.msg.leg.x, .int .i64 a.msg.value, .int .u8 a.msg.status, .int .u32 a.msg.nonce, .int .i64 a.msg.amount, .int .i64 a.msg.code] rfl (Nat.le_of_ble_eq_true rfl) rfl)) (goes_still rfl (gd_yes hC).symm hM)
    · exact op3 (a := 0) z2_19 rfl (fun _ => rfl) rfl (fun hC _ => (gd_no hC).symm) fun hC e w ρ (hM : Mem _ w) E => res_ok (x_fieldAddr (off := 13) rfl (E.o 3 _ rfl g3_2) (by kernel_rfl) rfl) (goes_still rfl (gd_yes hC).symm hM)
    · exact op3 (a := 0) z2_19 rfl (fun _ => rfl) rfl (fun hC _ => (gd_no hC).symm) fun hC e w ρ (hM : Mem _ w) E => res_ok (x_loads rfl ((E.d 22 _ 35 rfl rfl rfl).trans (gd_yes hC)) (by kernel_rfl) (load_part (hM.box 2 rfl) [.int .u8 b.msg.kind, .int .u8 b.msg.tick.c, .int .u64 b.msg.tick.r, .int .u8 b.msg.at_, .int .u8 b.msg.leg.c, .int .u16 b.msg.leg.f, .int .u32 b.msg.leg.x, .int .i64 b.msg.value, .int .u8 b.msg.status, .int .u32 b.msg.nonce, .int .i64 b.msg.amount, .int .i64 b.msg.code] rfl (Nat.le_of_ble_eq_true rfl) rfl)) (goes_still rfl (gd_yes hC).symm hM)
    · exact op3 (a := 0) z2_19 rfl (fun _ => rfl) rfl (fun hC _ => (gd_no hC).symm) fun hC e w ρ (hM : Mem _ w) E => res_ok (x_eqA rfl ((E.d 21 _ 34 rfl rfl rfl).trans (gd_yes hC)) ((E.d 23 _ 36 rfl rfl rfl).trans (gd_yes hC)) (by kernel_rfl) (eq_msg a.msg b.msg w)) (goes_still rfl (gd_yes hC).symm hM)
    · exact op2 (a := 0) rfl fun e w ρ (hM : Mem _ w) E => res_ok (x_pickAnd rfl (E.d 19 _ 32 rfl rfl rfl) (fun hC => ((E.d 24 _ 37 rfl rfl rfl).trans (gd_t hC))) (E.c _)) (goes_still rfl rfl hM)
    · exact op2 (a := 0) rfl fun e w ρ (hM : Mem _ w) E => res_ok (x_move rfl (E.d 25 _ 38 rfl rfl rfl)) (goes_still rfl (congrArg Value.bool hz2_26.symm) hM)
    · exact op3 (a := 0) z2_26 rfl (fun _ => rfl) rfl (fun hC _ => (gd_no hC).symm) fun hC e w ρ (hM : Mem _ w) E => res_ok (x_fieldAddr (off := 1) rfl (E.o 2 _ rfl g2_2) (by kernel_rfl) rfl) (goes_still rfl (gd_yes hC).symm hM)
    · exact op3 (a := 0) z2_26 rfl (fun _ => rfl) rfl (fun hC _ => (gd_no hC).symm) fun hC e w ρ (hM : Mem _ w) E => res_ok (x_fieldAddr (off := 0) rfl ((E.d 27 _ 40 rfl rfl rfl).trans (gd_yes hC)) (by kernel_rfl) rfl) (goes_still rfl (gd_yes hC).symm hM)
    · exact op3 (a := 0) z2_26 rfl (fun _ => rfl) rfl (fun hC _ => (gd_no hC).symm) fun hC e w ρ (hM : Mem _ w) E => res_ok (x_load rfl ((E.d 28 _ 41 rfl rfl rfl).trans (gd_yes hC)) (by kernel_rfl) ((hM.box 3 rfl).cell 1 rfl)) (goes_still rfl (gd_yes hC).symm hM)
    · exact op3 (a := 0) z2_26 rfl (fun _ => rfl) rfl (fun hC _ => (gd_no hC).symm) fun hC e w ρ (hM : Mem _ w) E => res_ok (x_fieldAddr (off := 1) rfl (E.o 3 _ rfl g3_2) (by kernel_rfl) rfl) (goes_still rfl (gd_yes hC).symm hM)
    · exact op3 (a := 0) z2_26 rfl (fun _ => rfl) rfl (fun hC _ => (gd_no hC).symm) fun hC e w ρ (hM : Mem _ w) E => res_ok (x_fieldAddr (off := 0) rfl ((E.d 30 _ 43 rfl rfl rfl).trans (gd_yes hC)) (by kernel_rfl) rfl) (goes_still rfl (gd_yes hC).symm hM)
    · exact op3 (a := 0) z2_26 rfl (fun _ => rfl) rfl (fun hC _ => (gd_no hC).symm) fun hC e w ρ (hM : Mem _ w) E => res_ok (x_load rfl ((E.d 31 _ 44 rfl rfl rfl).trans (gd_yes hC)) (by kernel_rfl) ((hM.box 2 rfl).cell 1 rfl)) (goes_still rfl (gd_yes hC).symm hM)
    · exact op3 (a := 0) z2_26 rfl (fun _ => rfl) rfl (fun hC _ => (gd_no hC).symm) fun hC e w ρ (hM : Mem _ w) E => res_ok (x_eql rfl ((E.d 29 _ 42 rfl rfl rfl).trans (gd_yes hC)) ((E.d 32 _ 45 rfl rfl rfl).trans (gd_yes hC)) rfl) (goes_still rfl (gd_yes hC).symm hM)
    · exact op2 (a := 0) rfl fun e w ρ (hM : Mem _ w) E => res_ok (x_pickAnd rfl (E.d 26 _ 39 rfl rfl rfl) (fun hC => ((E.d 33 _ 46 rfl rfl rfl).trans (gd_t hC))) (E.c _)) (goes_still rfl rfl hM)
    · exact op2 (a := 0) rfl fun e w ρ (hM : Mem _ w) E => res_ok (x_move rfl (E.d 34 _ 47 rfl rfl rfl)) (goes_still rfl (congrArg Value.bool hz2_35.symm) hM)
    · exact op3 (a := 0) z2_35 rfl (fun _ => rfl) rfl (fun hC _ => (gd_no hC).symm) fun hC e w ρ (hM : Mem _ w) E => res_ok (x_fieldAddr (off := 1) rfl (E.o 2 _ rfl g2_2) (by kernel_rfl) rfl) (goes_still rfl (gd_yes hC).symm hM)
    · exact op3 (a := 0) z2_35 rfl (fun _ => rfl) rfl (fun hC _ => (gd_no hC).symm) fun hC e w ρ (hM : Mem _ w) E => res_ok (x_fieldAddr (off := 1) rfl ((E.d 36 _ 49 rfl rfl rfl).trans (gd_yes hC)) (by kernel_rfl) rfl) (goes_still rfl (gd_yes hC).symm hM)
    · exact op3 (a := 0) z2_35 rfl (fun _ => rfl) rfl (fun hC _ => (gd_no hC).symm) fun hC e w ρ (hM : Mem _ w) E => res_ok (x_loads rfl ((E.d 37 _ 50 rfl rfl rfl).trans (gd_yes hC)) (by kernel_rfl) (load_part (hM.box 3 rfl) [.int .u8 a.cmd.tick.c, .int .u64 a.cmd.tick.r] rfl (Nat.le_of_ble_eq_true rfl) rfl)) (goes_still rfl (gd_yes hC).symm hM)
    · exact op3 (a := 0) z2_35 rfl (fun _ => rfl) rfl (fun hC _ => (gd_no hC).symm) fun hC e w ρ (hM : Mem _ w) E => res_ok (x_fieldAddr (off := 1) rfl (E.o 3 _ rfl g3_2) (by kernel_rfl) rfl) (goes_still rfl (gd_yes hC).symm hM)
    · exact op3 (a := 0) z2_35 rfl (fun _ => rfl) rfl (fun hC _ => (gd_no hC).symm) fun hC e w ρ (hM : Mem _ w) E => res_ok (x_fieldAddr (off := 1) rfl ((E.d 39 _ 52 rfl rfl rfl).trans (gd_yes hC)) (by kernel_rfl) rfl) (goes_still rfl (gd_yes hC).symm hM)
    · exact op3 (a := 0) z2_35 rfl (fun _ => rfl) rfl (fun hC _ => (gd_no hC).symm) fun hC e w ρ (hM : Mem _ w) E => res_ok (x_loads rfl ((E.d 40 _ 53 rfl rfl rfl).trans (gd_yes hC)) (by kernel_rfl) (load_part (hM.box 2 rfl) [.int .u8 b.cmd.tick.c, .int .u64 b.cmd.tick.r] rfl (Nat.le_of_ble_eq_true rfl) rfl)) (goes_still rfl (gd_yes hC).symm hM)
    · exact op3 (a := 0) z2_35 rfl (fun _ => rfl) rfl (fun hC _ => (gd_no hC).symm) fun hC e w ρ (hM : Mem _ w) E => res_ok (x_eqA rfl ((E.d 38 _ 51 rfl rfl rfl).trans (gd_yes hC)) ((E.d 41 _ 54 rfl rfl rfl).trans (gd_yes hC)) (by kernel_rfl) (eq_tick a.cmd.tick b.cmd.tick w)) (goes_still rfl (gd_yes hC).symm hM)
    · exact op2 (a := 0) rfl fun e w ρ (hM : Mem _ w) E => res_ok (x_pickAnd rfl (E.d 35 _ 48 rfl rfl rfl) (fun hC => ((E.d 42 _ 55 rfl rfl rfl).trans (gd_t hC))) (E.c _)) (goes_still rfl rfl hM)
    · exact op2 (a := 0) rfl fun e w ρ (hM : Mem _ w) E => res_ok (x_move rfl (E.d 43 _ 56 rfl rfl rfl)) (goes_still rfl (congrArg Value.bool hz2_44.symm) hM)
    · exact op3 (a := 0) z2_44 rfl (fun _ => rfl) rfl (fun hC _ => (gd_no hC).symm) fun hC e w ρ (hM : Mem _ w) E => res_ok (x_fieldAddr (off := 1) rfl (E.o 2 _ rfl g2_2) (by kernel_rfl) rfl) (goes_still rfl (gd_yes hC).symm hM)
    · exact op3 (a := 0) z2_44 rfl (fun _ => rfl) rfl (fun hC _ => (gd_no hC).symm) fun hC e w ρ (hM : Mem _ w) E => res_ok (x_fieldAddr (off := 3) rfl ((E.d 45 _ 58 rfl rfl rfl).trans (gd_yes hC)) (by kernel_rfl) rfl) (goes_still rfl (gd_yes hC).symm hM)
    · exact op3 (a := 0) z2_44 rfl (fun _ => rfl) rfl (fun hC _ => (gd_no hC).symm) fun hC e w ρ (hM : Mem _ w) E => res_ok (x_load rfl ((E.d 46 _ 59 rfl rfl rfl).trans (gd_yes hC)) (by kernel_rfl) ((hM.box 3 rfl).cell 4 rfl)) (goes_still rfl (gd_yes hC).symm hM)
    · exact op3 (a := 0) z2_44 rfl (fun _ => rfl) rfl (fun hC _ => (gd_no hC).symm) fun hC e w ρ (hM : Mem _ w) E => res_ok (x_fieldAddr (off := 1) rfl (E.o 3 _ rfl g3_2) (by kernel_rfl) rfl) (goes_still rfl (gd_yes hC).symm hM)
    · exact op3 (a := 0) z2_44 rfl (fun _ => rfl) rfl (fun hC _ => (gd_no hC).symm) fun hC e w ρ (hM : Mem _ w) E => res_ok (x_fieldAddr (off := 3) rfl ((E.d 48 _ 61 rfl rfl rfl).trans (gd_yes hC)) (by kernel_rfl) rfl) (goes_still rfl (gd_yes hC).symm hM)
    · exact op3 (a := 0) z2_44 rfl (fun _ => rfl) rfl (fun hC _ => (gd_no hC).symm) fun hC e w ρ (hM : Mem _ w) E => res_ok (x_load rfl ((E.d 49 _ 62 rfl rfl rfl).trans (gd_yes hC)) (by kernel_rfl) ((hM.box 2 rfl).cell 4 rfl)) (goes_still rfl (gd_yes hC).symm hM)
    · exact op3 (a := 0) z2_44 rfl (fun _ => rfl) rfl (fun hC _ => (gd_no hC).symm) fun hC e w ρ (hM : Mem _ w) E => res_ok (x_eql rfl ((E.d 47 _ 60 rfl rfl rfl).trans (gd_yes hC)) ((E.d 50 _ 63 rfl rfl rfl).trans (gd_yes hC)) rfl) (goes_still rfl (gd_yes hC).symm hM)
    · exact op2 (a := 0) rfl fun e w ρ (hM : Mem _ w) E => res_ok (x_pickAnd rfl (E.d 44 _ 57 rfl rfl rfl) (fun hC => ((E.d 51 _ 64 rfl rfl rfl).trans (gd_t hC))) (E.c _)) (goes_still rfl rfl hM)
    · exact op2 (a := 0) rfl fun e w ρ (hM : Mem _ w) E => res_ok (x_move rfl (E.d 52 _ 65 rfl rfl rfl)) (goes_still rfl (congrArg Value.bool hz2_53.symm) hM)
    · exact op3 (a := 0) z2_53 rfl (fun _ => rfl) rfl (fun hC _ => (gd_no hC).symm) fun hC e w ρ (hM : Mem _ w) E => res_ok (x_fieldAddr (off := 1) rfl (E.o 2 _ rfl g2_2) (by kernel_rfl) rfl) (goes_still rfl (gd_yes hC).symm hM)
    · exact op3 (a := 0) z2_53 rfl (fun _ => rfl) rfl (fun hC _ => (gd_no hC).symm) fun hC e w ρ (hM : Mem _ w) E => res_ok (x_fieldAddr (off := 9) rfl ((E.d 54 _ 67 rfl rfl rfl).trans (gd_yes hC)) (by kernel_rfl) rfl) (goes_still rfl (gd_yes hC).symm hM)
    · exact op3 (a := 0) z2_53 rfl (fun _ => rfl) rfl (fun hC _ => (gd_no hC).symm) fun hC e w ρ (hM : Mem _ w) E => res_ok (x_load rfl ((E.d 55 _ 68 rfl rfl rfl).trans (gd_yes hC)) (by kernel_rfl) ((hM.box 3 rfl).cell 10 rfl)) (goes_still rfl (gd_yes hC).symm hM)
    · exact op3 (a := 0) z2_53 rfl (fun _ => rfl) rfl (fun hC _ => (gd_no hC).symm) fun hC e w ρ (hM : Mem _ w) E => res_ok (x_fieldAddr (off := 1) rfl (E.o 3 _ rfl g3_2) (by kernel_rfl) rfl) (goes_still rfl (gd_yes hC).symm hM)
    · exact op3 (a := 0) z2_53 rfl (fun _ => rfl) rfl (fun hC _ => (gd_no hC).symm) fun hC e w ρ (hM : Mem _ w) E => res_ok (x_fieldAddr (off := 9) rfl ((E.d 57 _ 70 rfl rfl rfl).trans (gd_yes hC)) (by kernel_rfl) rfl) (goes_still rfl (gd_yes hC).symm hM)
    · exact op3 (a := 0) z2_53 rfl (fun _ => rfl) rfl (fun hC _ => (gd_no hC).symm) fun hC e w ρ (hM : Mem _ w) E => res_ok (x_load rfl ((E.d 58 _ 71 rfl rfl rfl).trans (gd_yes hC)) (by kernel_rfl) ((hM.box 2 rfl).cell 10 rfl)) (goes_still rfl (gd_yes hC).symm hM)
    · exact op3 (a := 0) z2_53 rfl (fun _ => rfl) rfl (fun hC _ => (gd_no hC).symm) fun hC e w ρ (hM : Mem _ w) E => res_ok (x_eql rfl ((E.d 56 _ 69 rfl rfl rfl).trans (gd_yes hC)) ((E.d 59 _ 72 rfl rfl rfl).trans (gd_yes hC)) rfl) (goes_still rfl (gd_yes hC).symm hM)
    · exact op2 (a := 0) rfl fun e w ρ (hM : Mem _ w) E => res_ok (x_pickAnd rfl (E.d 53 _ 66 rfl rfl rfl) (fun hC => ((E.d 60 _ 73 rfl rfl rfl).trans (gd_t hC))) (E.c _)) (goes_still rfl rfl hM)
    · exact op2 (a := 0) rfl fun e w ρ (hM : Mem _ w) E => res_ok (x_move rfl (E.d 61 _ 74 rfl rfl rfl)) (goes_still rfl (congrArg Value.bool hz2_62.symm) hM)
    · exact op3 (a := 0) z2_62 rfl (fun _ => rfl) rfl (fun hC _ => (gd_no hC).symm) fun hC e w ρ (hM : Mem _ w) E => res_ok (x_fieldAddr (off := 0) rfl (E.o 5 _ rfl g5_2) (by kernel_rfl) rfl) (goes_still rfl (gd_yes hC).symm hM)
    · exact op3 (a := 0) z2_62 rfl (fun _ => rfl) rfl (fun hC _ => (gd_no hC).symm) fun hC e w ρ (hM : Mem _ w) E => res_ok (x_load rfl ((E.d 63 _ 76 rfl rfl rfl).trans (gd_yes hC)) (by kernel_rfl) ((hM.box 1 rfl).cell 0 rfl)) (goes_still rfl (gd_yes hC).symm hM)
    · exact op3 (a := 0) z2_62 rfl (fun _ => rfl) rfl (fun hC _ => (gd_no hC).symm) fun hC e w ρ (hM : Mem _ w) E => res_ok (x_fieldAddr (off := 0) rfl (E.o 6 _ rfl g6_2) (by kernel_rfl) rfl) (goes_still rfl (gd_yes hC).symm hM)
    · exact op3 (a := 0) z2_62 rfl (fun _ => rfl) rfl (fun hC _ => (gd_no hC).symm) fun hC e w ρ (hM : Mem _ w) E => res_ok (x_load rfl ((E.d 65 _ 78 rfl rfl rfl).trans (gd_yes hC)) (by kernel_rfl) ((hM.box 0 rfl).cell 0 rfl)) (goes_still rfl (gd_yes hC).symm hM)
    · exact op3 (a := 0) z2_62 rfl (fun _ => rfl) rfl (fun hC _ => (gd_no hC).symm) fun hC e w ρ (hM : Mem _ w) E => res_ok (x_eqS rfl ((E.d 64 _ 77 rfl rfl rfl).trans (gd_yes hC)) ((E.d 66 _ 79 rfl rfl rfl).trans (gd_yes hC)) rfl) (goes_still rfl (gd_yes hC).symm hM)
    · exact op2 (a := 0) rfl fun e w ρ (hM : Mem _ w) E => res_ok (x_pickAnd rfl (E.d 62 _ 75 rfl rfl rfl) (fun hC => ((E.d 67 _ 80 rfl rfl rfl).trans (gd_t hC))) (E.c _)) (goes_still rfl rfl hM)
    · exact op2 (a := 0) rfl fun e w ρ (hM : Mem _ w) E => res_ok (x_move rfl (E.d 68 _ 81 rfl rfl rfl)) (goes_still rfl (congrArg Value.bool hz2_69.symm) hM)
    · exact op3 (a := 0) z2_69 rfl (fun _ => rfl) rfl (fun hC _ => (gd_no hC).symm) fun hC e w ρ (hM : Mem _ w) E => res_ok (x_fieldAddr (off := 1) rfl (E.o 5 _ rfl g5_2) (by kernel_rfl) rfl) (goes_still rfl (gd_yes hC).symm hM)
    · exact op3 (a := 0) z2_69 rfl (fun _ => rfl) rfl (fun hC _ => (gd_no hC).symm) fun hC e w ρ (hM : Mem _ w) E => res_ok (x_load rfl ((E.d 70 _ 83 rfl rfl rfl).trans (gd_yes hC)) (by kernel_rfl) ((hM.box 1 rfl).cell 1 rfl)) (goes_still rfl (gd_yes hC).symm hM)
    · exact op3 (a := 0) z2_69 rfl (fun _ => rfl) rfl (fun hC _ => (gd_no hC).symm) fun hC e w ρ (hM : Mem _ w) E => res_ok (x_fieldAddr (off := 1) rfl (E.o 6 _ rfl g6_2) (by kernel_rfl) rfl) (goes_still rfl (gd_yes hC).symm hM)
    · exact op3 (a := 0) z2_69 rfl (fun _ => rfl) rfl (fun hC _ => (gd_no hC).symm) fun hC e w ρ (hM : Mem _ w) E => res_ok (x_load rfl ((E.d 72 _ 85 rfl rfl rfl).trans (gd_yes hC)) (by kernel_rfl) ((hM.box 0 rfl).cell 1 rfl)) (goes_still rfl (gd_yes hC).symm hM)
    ·
     refine op3 (a := 0) z2_69 rfl (fun _ => rfl) rfl (fun hC _ => (gd_no hC).symm) fun hC e w ρ (hM : Mem _ w) E => ?_
     have e84 : ρ (.tmp 84) = .slice al1 a.cmd.legs.length cl1 := ((E.d 71 _ 84 rfl rfl rfl).trans (gd_yes hC))
     have e86 : ρ (.tmp 86) = .slice al2 b.cmd.legs.length cl2 := ((E.d 73 _ 86 rfl rfl rfl).trans (gd_yes hC))
     refine res_in (x_call (args := #[.slice al1 a.cmd.legs.length cl1, .slice al2 b.cmd.legs.length cl2]) rfl rfl (E.f _) (by simp [e84, e86]) (by kernel_rfl)) ?_
     refine (equal_Leg al1 al2 cl1 cl2 a.cmd.legs b.cmd.legs _ _ hM (hl1.more.more.more.more) (hl2.more.more.more.more) (by omega) (by omega)).mono ?_
     rintro e' w' ⟨rfl, hm⟩
     exact ⟨_, rfl, goes_still rfl (gd_yes hC).symm (hm)⟩
    · exact op2 (a := 0) rfl fun e w ρ (hM : Mem _ w) E => res_ok (x_pickAnd rfl (E.d 69 _ 82 rfl rfl rfl) (fun hC => ((E.d 74 _ 87 rfl rfl rfl).trans (gd_t hC))) (E.c _)) (goes_still rfl rfl hM)
    · exact op2 (a := 0) rfl fun e w ρ (hM : Mem _ w) E => res_ok (x_move rfl (E.d 75 _ 88 rfl rfl rfl)) (goes_still rfl (congrArg Value.bool hz2_76.symm) hM)
    · exact op3 (a := 0) z2_76 rfl (fun _ => rfl) rfl (fun hC _ => (gd_no hC).symm) fun hC e w ρ (hM : Mem _ w) E => res_ok (x_fieldAddr (off := 2) rfl (E.o 5 _ rfl g5_2) (by kernel_rfl) rfl) (goes_still rfl (gd_yes hC).symm hM)
    · exact op3 (a := 0) z2_76 rfl (fun _ => rfl) rfl (fun hC _ => (gd_no hC).symm) fun hC e w ρ (hM : Mem _ w) E => res_ok (x_load rfl ((E.d 77 _ 90 rfl rfl rfl).trans (gd_yes hC)) (by kernel_rfl) ((hM.box 1 rfl).cell 2 rfl)) (goes_still rfl (gd_yes hC).symm hM)
    · exact op3 (a := 0) z2_76 rfl (fun _ => rfl) rfl (fun hC _ => (gd_no hC).symm) fun hC e w ρ (hM : Mem _ w) E => res_ok (x_fieldAddr (off := 2) rfl (E.o 6 _ rfl g6_2) (by kernel_rfl) rfl) (goes_still rfl (gd_yes hC).symm hM)
    · exact op3 (a := 0) z2_76 rfl (fun _ => rfl) rfl (fun hC _ => (gd_no hC).symm) fun hC e w ρ (hM : Mem _ w) E => res_ok (x_load rfl ((E.d 79 _ 92 rfl rfl rfl).trans (gd_yes hC)) (by kernel_rfl) ((hM.box 0 rfl).cell 2 rfl)) (goes_still rfl (gd_yes hC).symm hM)
    · exact op3 (a := 0) z2_76 rfl (fun _ => rfl) rfl (fun hC _ => (gd_no hC).symm) fun hC e w ρ (hM : Mem _ w) E => res_ok (x_eql rfl ((E.d 78 _ 91 rfl rfl rfl).trans (gd_yes hC)) ((E.d 80 _ 93 rfl rfl rfl).trans (gd_yes hC)) rfl) (goes_still rfl (gd_yes hC).symm hM)
    · exact op2 (a := 0) rfl fun e w ρ (hM : Mem _ w) E => res_ok (x_pickAnd rfl (E.d 76 _ 89 rfl rfl rfl) (fun hC => ((E.d 81 _ 94 rfl rfl rfl).trans (gd_t hC))) (E.c _)) (goes_still rfl rfl hM)
    · exact op2 (a := 0) rfl fun e w ρ (hM : Mem _ w) E => res_ok (x_move rfl (E.d 82 _ 95 rfl rfl rfl)) (goes_still rfl (congrArg Value.bool hz2_83.symm) hM)
    · exact op3 (a := 0) z2_83 rfl (fun _ => rfl) rfl (fun hC _ => (gd_no hC).symm) fun hC e w ρ (hM : Mem _ w) E => res_ok (x_fieldAddr (off := 3) rfl (E.o 5 _ rfl g5_2) (by kernel_rfl) rfl) (goes_still rfl (gd_yes hC).symm hM)
    · exact op3 (a := 0) z2_83 rfl (fun _ => rfl) rfl (fun hC _ => (gd_no hC).symm) fun hC e w ρ (hM : Mem _ w) E => res_ok (x_load rfl ((E.d 84 _ 97 rfl rfl rfl).trans (gd_yes hC)) (by kernel_rfl) ((hM.box 1 rfl).cell 3 rfl)) (goes_still rfl (gd_yes hC).symm hM)
    · exact op3 (a := 0) z2_83 rfl (fun _ => rfl) rfl (fun hC _ => (gd_no hC).symm) fun hC e w ρ (hM : Mem _ w) E => res_ok (x_fieldAddr (off := 3) rfl (E.o 6 _ rfl g6_2) (by kernel_rfl) rfl) (goes_still rfl (gd_yes hC).symm hM)
    · exact op3 (a := 0) z2_83 rfl (fun _ => rfl) rfl (fun hC _ => (gd_no hC).symm) fun hC e w ρ (hM : Mem _ w) E => res_ok (x_load rfl ((E.d 86 _ 99 rfl rfl rfl).trans (gd_yes hC)) (by kernel_rfl) ((hM.box 0 rfl).cell 3 rfl)) (goes_still rfl (gd_yes hC).symm hM)
    ·
     refine op3 (a := 0) z2_83 rfl (fun _ => rfl) rfl (fun hC _ => (gd_no hC).symm) fun hC e w ρ (hM : Mem _ w) E => ?_
     have e98 : ρ (.tmp 98) = .slice at1 a.cmd.taxes.length ct1 := ((E.d 85 _ 98 rfl rfl rfl).trans (gd_yes hC))
     have e100 : ρ (.tmp 100) = .slice at2 b.cmd.taxes.length ct2 := ((E.d 87 _ 100 rfl rfl rfl).trans (gd_yes hC))
     refine res_in (x_call (args := #[.slice at1 a.cmd.taxes.length ct1, .slice at2 b.cmd.taxes.length ct2]) rfl rfl (E.f _) (by simp [e100, e98]) (by kernel_rfl)) ?_
     refine (equal_Tax at1 at2 ct1 ct2 a.cmd.taxes b.cmd.taxes _ _ hM (ht1.more.more.more.more) (ht2.more.more.more.more) (by omega) (by omega)).mono ?_
     rintro e' w' ⟨rfl, hm⟩
     exact ⟨_, rfl, goes_still rfl (gd_yes hC).symm (hm)⟩
    · exact op2 (a := 0) rfl fun e w ρ (hM : Mem _ w) E => res_ok (x_pickAnd rfl (E.d 83 _ 96 rfl rfl rfl) (fun hC => ((E.d 88 _ 101 rfl rfl rfl).trans (gd_t hC))) (E.c _)) (goes_still rfl rfl hM)
    · exact op2 (a := 0) rfl fun e w ρ (hM : Mem _ w) E => res_ok (x_move rfl (E.d 89 _ 102 rfl rfl rfl)) (goes_still rfl (congrArg Value.bool hz2_90.symm) hM)
    · exact op3 (a := 0) z2_90 rfl (fun _ => rfl) rfl (fun hC _ => (gd_no hC).symm) fun hC e w ρ (hM : Mem _ w) E => res_ok (x_fieldAddr (off := 4) rfl (E.o 5 _ rfl g5_2) (by kernel_rfl) rfl) (goes_still rfl (gd_yes hC).symm hM)
    · exact op3 (a := 0) z2_90 rfl (fun _ => rfl) rfl (fun hC _ => (gd_no hC).symm) fun hC e w ρ (hM : Mem _ w) E => res_ok (x_load rfl ((E.d 91 _ 104 rfl rfl rfl).trans (gd_yes hC)) (by kernel_rfl) ((hM.box 1 rfl).cell 4 rfl)) (goes_still rfl (gd_yes hC).symm hM)
    · exact op3 (a := 0) z2_90 rfl (fun _ => rfl) rfl (fun hC _ => (gd_no hC).symm) fun hC e w ρ (hM : Mem _ w) E => res_ok (x_fieldAddr (off := 4) rfl (E.o 6 _ rfl g6_2) (by kernel_rfl) rfl) (goes_still rfl (gd_yes hC).symm hM)
    · exact op3 (a := 0) z2_90 rfl (fun _ => rfl) rfl (fun hC _ => (gd_no hC).symm) fun hC e w ρ (hM : Mem _ w) E => res_ok (x_load rfl ((E.d 93 _ 106 rfl rfl rfl).trans (gd_yes hC)) (by kernel_rfl) ((hM.box 0 rfl).cell 4 rfl)) (goes_still rfl (gd_yes hC).symm hM)
    · exact op3 (a := 0) z2_90 rfl (fun _ => rfl) rfl (fun hC _ => (gd_no hC).symm) fun hC e w ρ (hM : Mem _ w) E => res_ok (x_eql rfl ((E.d 92 _ 105 rfl rfl rfl).trans (gd_yes hC)) ((E.d 94 _ 107 rfl rfl rfl).trans (gd_yes hC)) rfl) (goes_still rfl (gd_yes hC).symm hM)
    · exact op2 (a := 0) rfl fun e w ρ (hM : Mem _ w) E => res_ok (x_pickAnd rfl (E.d 90 _ 103 rfl rfl rfl) (fun hC => ((E.d 95 _ 108 rfl rfl rfl).trans (gd_t hC))) (E.c _)) (goes_still rfl rfl hM)
    · exact op2 (a := 0) rfl fun e w ρ (hM : Mem _ w) E => res_ok (x_assign rfl (E.d 96 _ 109 rfl rfl rfl)) (goes_still rfl rfl hM)
   ·
    intro e a3 w3 hz3 hd hG hO hM
    have hd3 := hd.trans hd2
    have g4_3 : a3.tmps[4]? = some (.bool (z2_90 && (decide (a.cmd.penalty = b.cmd.penalty)))) := hG 97 _ 4 rfl rfl
    have hM3 : Mem (boxC b2_7 #[.string b.cmd.name, .slice al2 b.cmd.legs.length cl2, .int .i64 b.cmd.fare, .slice at2 b.cmd.taxes.length ct2, .int .i64 b.cmd.penalty] :: boxC b2_6 #[.string a.cmd.name, .slice al1 a.cmd.legs.length cl1, .int .i64 a.cmd.fare, .slice at1 a.cmd.taxes.length ct1, .int .i64 a.cmd.penalty] :: boxC b1_1 (recCells b (.slice al2 b.cmd.legs.length cl2) (.slice at2 b.cmd.taxes.length ct2)) :: boxC b1_0 (recCells a (.slice al1 a.cmd.legs.length cl1) (.slice at1 a.cmd.taxes.length ct1)) :: R) w3 := hM
    clear hM hG hO hd
    clear hz2 hd2 hM2 g2_2 g3_2 g4_2 g5_2 g6_2
    refine then_n ?_
    refine wp_ret ?_
    refine ret_1 Try.results20 hd3 g4_3 ?_
    exact ⟨by rw [show sameV a b = (z2_90 && (decide (a.cmd.penalty = b.cmd.penalty))) from by simp only [hz2_5, hz2_12, hz2_19, hz2_26, hz2_35, hz2_44, hz2_53, hz2_62, hz2_69, hz2_76, hz2_83, hz2_90]; rfl], hM3.tail.tail.tail.tail⟩
set_option maxRecDepth 100000 in
set_option maxHeartbeats 8000000 in
theorem put1_at (s : ByteArray) (R : List Chunk) (w : World) (hM : Mem R w) :
  Calls Try.prog 22 #[.string s] w fun e w' => e = .returned (.bool (decide ((s.size : Int) > 32))) ∧ Mem R w' := by
 refine enter Try.func22 rfl Try.ntmps22 (Nat.le_of_ble_eq_true rfl) ?_
 intro a0 hz0 hd0 hg0
 have g0_0 : a0.tmps[0]? = some (.string s) := hg0 0 _ rfl
 clear hg0
 have hM0 : Mem (R) _ := hM
 refine wp_seq ?_
 refine region_seq 6 (fun zz e => (#[.bool false] : Array Value).getD zz undef) (fun k e w => Mem (List.getD [R] k []) w) (fun _ => (0, undef)) [] [0] (fun _ _ => false) hz0 (by kernel_rfl) (by kernel_rfl) (by kernel_rfl) ?_ (show Mem _ _ from hM0) ?_ ?_
 · exact ⟨fun _ _ _ => rfl, trivial⟩
 ·
  refine ⟨?_, trivial⟩
  · exact op2 (a := 0) rfl fun e w ρ (hM : Mem _ w) E => res_ok (x_assign rfl (E.c _)) (goes_still rfl rfl hM)
 ·
  intro e a1 w1 hz1 hd hG hO hM
  have hd1 := hd.trans hd0
  have g0_1 := (hO 0 rfl).trans g0_0
  have g2_1 : a1.tmps[2]? = some (.bool false) := hG 0 _ 2 rfl rfl
  have hM1 : Mem (R) w1 := hM
  clear hM hG hO hd
  clear hz0 hd0 hM0 g0_0
  refine then_n ?_
  refine wp_seq ?_
  refine region_seq 6 (fun zz e => (#[.string s, .int .i64 (s.size : Int), .bool (decide ((s.size : Int) > 32)), .bool (decide ((s.size : Int) > 32))] : Array Value).getD zz undef) (fun k e w => Mem (List.getD [R] k []) w) (fun _ => (0, undef)) [] [0, 0, 0, 0] (fun _ _ => false) hz1 (by kernel_rfl) (by kernel_rfl) (by kernel_rfl) ?_ (show Mem _ _ from hM1) ?_ ?_
  · exact ⟨fun _ _ _ => rfl, fun _ _ _ => rfl, fun _ _ _ => rfl, fun _ _ _ => rfl, trivial⟩
  ·
   refine ⟨?_, ?_, ?_, ?_, trivial⟩
   · exact op2 (a := 0) rfl fun e w ρ (hM : Mem _ w) E => res_ok (x_move rfl (E.o 0 _ rfl g0_1)) (goes_still rfl rfl hM)
   ·
    refine op2 (a := 0) rfl fun e w ρ (hM : Mem _ w) E => ?_
    have e3 : ρ (.tmp 3) = .string s := E.d 0 _ 3 rfl rfl rfl
    exact res_ok (x_lenS rfl rfl rfl rfl (e3) (by kernel_rfl)) (goes_still rfl rfl hM)
   · exact op2 (a := 0) rfl fun e w ρ (hM : Mem _ w) E => res_ok (x_gtr rfl (E.d 1 _ 4 rfl rfl rfl) (E.c _) rfl) (goes_still rfl rfl hM)
   · exact op2 (a := 0) rfl fun e w ρ (hM : Mem _ w) E => res_ok (x_assign rfl (E.d 2 _ 5 rfl rfl rfl)) (goes_still rfl rfl hM)
  ·
   intro e a2 w2 hz2 hd hG hO hM
   have hd2 := hd.trans hd1
   have g2_2 : a2.tmps[2]? = some (.bool (decide ((s.size : Int) > 32))) := hG 3 _ 2 rfl rfl
   have hM2 : Mem (R) w2 := hM
   clear hM hG hO hd
   clear hz1 hd1 hM1 g0_1 g2_1
   refine then_n ?_
   refine wp_ret ?_
   refine ret_1 Try.results22 hd2 g2_2 ?_
   exact ⟨rfl, hM2⟩
set_option maxRecDepth 100000 in
set_option maxHeartbeats 8000000 in
theorem put2_at (lb : Nat) (x : TaxV) (R : List Chunk) (w : World) (hM : Mem (boxC lb #[.func (.func 22) #[] #[]] :: R) w) :
  Calls Try.prog 24 #[.agg #[.string x.code, .int .i64 x.amt], .pointer (some ⟨lb, 0, none⟩)] w fun e w' => e = .returned (.bool (longT x)) ∧ Mem (boxC lb #[.func (.func 22) #[] #[]] :: R) w' := by
 refine enter Try.func24 rfl Try.ntmps24 (Nat.le_of_ble_eq_true rfl) ?_
 intro a0 hz0 hd0 hg0
 have g0_0 : a0.tmps[0]? = some (.agg #[.string x.code, .int .i64 x.amt]) := hg0 0 _ rfl
 have g1_0 : a0.tmps[1]? = some (.pointer (some ⟨lb, 0, none⟩)) := hg0 1 _ rfl
 clear hg0
 have hM0 : Mem (boxC lb #[.func (.func 22) #[] #[]] :: R) _ := hM
 refine wp_seq ?_
 refine region_seq 8 (fun zz e => (#[.pointer (some ⟨(e 0).1, 0, none⟩), .bool false] : Array Value).getD zz undef) (fun k e w => Mem (List.getD [boxC lb #[.func (.func 22) #[] #[]] :: R, boxC ((e 0).1) #[.string x.code, .int .i64 x.amt] :: boxC lb #[.func (.func 22) #[] #[]] :: R] k []) w) (fun _ => (0, undef)) [0] [0, 1] (fun _ _ => false) hz0 (by kernel_rfl) (by kernel_rfl) (by kernel_rfl) ?_ (show Mem _ _ from hM0) ?_ ?_
 · exact ⟨fun e e' h => congrArg (fun x : Rv => (.pointer (some ⟨x.1, 0, none⟩) : Value)) (h 0 (by decide)), fun _ _ _ => rfl, trivial⟩
 ·
  refine ⟨?_, ?_, trivial⟩
  ·
   refine op2 (a := 0) rfl fun e w ρ (hM : Mem _ w) E => ?_
   have e0 : ρ (.tmp 0) = .agg #[.string x.code, .int .i64 x.amt] := E.o 0 _ rfl g0_0
   exact res_ok (x_box rfl (e0)) (goes_tick rfl (w.heap.size, undef) rfl (hM.alloc _ _))
  · exact op2 (a := 1) rfl fun e w ρ (hM : Mem _ w) E => res_ok (x_assign rfl (E.c _)) (goes_still rfl rfl hM)
 ·
  intro e a1 w1 hz1 hd hG hO hM
  have hd1 := hd.trans hd0
  have g1_1 := (hO 1 rfl).trans g1_0
  have g2_1 : a1.tmps[2]? = some (.pointer (some ⟨(e 0).1, 0, none⟩)) := hG 0 _ 2 rfl rfl
  have g3_1 : a1.tmps[3]? = some (.bool false) := hG 1 _ 3 rfl rfl
  have hM1 : Mem (boxC ((e 0).1) #[.string x.code, .int .i64 x.amt] :: boxC lb #[.func (.func 22) #[] #[]] :: R) w1 := hM
  clear hM hG hO hd
  clear hz0 hd0 hM0 g0_0 g1_0
  generalize (e 0).1 = b1_0 at *
  refine then_n ?_
  refine wp_seq ?_
  refine region_seq 8 (fun zz e => (#[.func (.func 22) #[] #[], .pointer (some ⟨b1_0, 0, none⟩), .string x.code, .bool (longT x), .bool (longT x)] : Array Value).getD zz undef) (fun k e w => Mem (List.getD [boxC b1_0 #[.string x.code, .int .i64 x.amt] :: boxC lb #[.func (.func 22) #[] #[]] :: R] k []) w) (fun _ => (0, undef)) [] [0, 0, 0, 0, 0] (fun _ _ => false) hz1 (by kernel_rfl) (by kernel_rfl) (by kernel_rfl) ?_ (show Mem _ _ from hM1) ?_ ?_
  · exact ⟨fun _ _ _ => rfl, fun _ _ _ => rfl, fun _ _ _ => rfl, fun _ _ _ => rfl, fun _ _ _ => rfl, trivial⟩
  ·
   refine ⟨?_, ?_, ?_, ?_, ?_, trivial⟩
   · exact op2 (a := 0) rfl fun e w ρ (hM : Mem _ w) E => res_ok (x_load rfl (E.o 1 _ rfl g1_1) (by kernel_rfl) ((hM.box 1 rfl).cell 0 rfl)) (goes_still rfl rfl hM)
   · exact op2 (a := 0) rfl fun e w ρ (hM : Mem _ w) E => res_ok (x_fieldAddr (off := 0) rfl (E.o 2 _ rfl g2_1) (by kernel_rfl) rfl) (goes_still rfl rfl hM)
   · exact op2 (a := 0) rfl fun e w ρ (hM : Mem _ w) E => res_ok (x_load rfl (E.d 1 _ 5 rfl rfl rfl) (by kernel_rfl) ((hM.box 0 rfl).cell 0 rfl)) (goes_still rfl rfl hM)
   ·
    refine op2 (a := 0) rfl fun e w ρ (hM : Mem _ w) E => ?_
    have e4 : ρ (.tmp 4) = .func (.func 22) #[] #[] := E.d 0 _ 4 rfl rfl rfl
    have e6 : ρ (.tmp 6) = .string x.code := E.d 2 _ 6 rfl rfl rfl
    refine res_in (x_call (args := #[.string x.code]) rfl rfl (e4) (by simp [e6]) (by kernel_rfl)) ?_
    refine (put1_at x.code _ _ hM).mono ?_
    rintro e' w' ⟨rfl, hm⟩
    exact ⟨_, rfl, goes_still rfl rfl (hm)⟩
   · exact op2 (a := 0) rfl fun e w ρ (hM : Mem _ w) E => res_ok (x_assign rfl (E.d 3 _ 7 rfl rfl rfl)) (goes_still rfl rfl hM)
  ·
   intro e a2 w2 hz2 hd hG hO hM
   have hd2 := hd.trans hd1
   have g3_2 : a2.tmps[3]? = some (.bool (longT x)) := hG 4 _ 3 rfl rfl
   have hM2 : Mem (boxC b1_0 #[.string x.code, .int .i64 x.amt] :: boxC lb #[.func (.func 22) #[] #[]] :: R) w2 := hM
   clear hM hG hO hd
   clear hz1 hd1 hM1 g1_1 g2_1 g3_1
   refine then_n ?_
   refine wp_ret ?_
   refine ret_1 Try.results24 hd2 g3_2 ?_
   exact ⟨rfl, hM2.tail⟩
set_option maxRecDepth 100000 in
set_option maxHeartbeats 8000000 in
theorem indexLong (lb : Nat) (a : Option Addr) (c : Nat) (xs : List TaxV) (R : List Chunk) (w : World) (hM : Mem (boxC lb #[.func (.func 22) #[] #[]] :: R) w) (hR : Reads R a (cellsL taxE xs)) (hn : xs.length ≤ 1000000) :
  Calls Try.prog 39 #[.slice a xs.length c, .func (.func 24) #[] #[.pointer (some ⟨lb, 0, none⟩)]] w fun e w' => e = .returned (.int .i64 (findI longT xs 0)) ∧ Mem (boxC lb #[.func (.func 22) #[] #[]] :: R) w' := by
 refine enter Try.func39 rfl Try.ntmps39 (Nat.le_of_ble_eq_true rfl) ?_
 intro a0 hz0 hd0 hg0
 have g0_0 : a0.tmps[0]? = some (.slice a xs.length c) := hg0 0 _ rfl
 have g1_0 : a0.tmps[1]? = some (.func (.func 24) #[] #[.pointer (some ⟨lb, 0, none⟩)]) := hg0 1 _ rfl
 clear hg0
 have hM0 : Mem (boxC lb #[.func (.func 22) #[] #[]] :: R) _ := hM
 refine wp_seq ?_
 refine region_seq 19 (fun zz e => (#[.int .i64 0] : Array Value).getD zz undef) (fun k e w => Mem (List.getD [boxC lb #[.func (.func 22) #[] #[]] :: R] k []) w) (fun _ => (0, undef)) [] [0] (fun _ _ => false) hz0 (by kernel_rfl) (by kernel_rfl) (by kernel_rfl) ?_ (show Mem _ _ from hM0) ?_ ?_
 · exact ⟨fun _ _ _ => rfl, trivial⟩
 ·
  refine ⟨?_, trivial⟩
  · exact op2 (a := 0) rfl fun e w ρ (hM : Mem _ w) E => res_ok (x_assign rfl (E.c _)) (goes_still rfl rfl hM)
 ·
  intro e a1 w1 hz1 hd hG hO hM
  have hd1 := hd.trans hd0
  have g0_1 := (hO 0 rfl).trans g0_0
  have g1_1 := (hO 1 rfl).trans g1_0
  have g4_1 : a1.tmps[4]? = some (.int .i64 0) := hG 0 _ 4 rfl rfl
  have hM1 : Mem (boxC lb #[.func (.func 22) #[] #[]] :: R) w1 := hM
  clear hM hG hO hd
  clear hz0 hd0 hM0 g0_0 g1_0
  refine then_n ?_
  refine wp_seq ?_
  refine wp_seq ?_
  refine region_seq 19 (fun zz e => (#[.slice a xs.length c, .int .i64 (xs.length : Int), .int .i64 0] : Array Value).getD zz undef) (fun k e w => Mem (List.getD [boxC lb #[.func (.func 22) #[] #[]] :: R] k []) w) (fun _ => (0, undef)) [] [0, 0, 0] (fun _ _ => false) hz1 (by kernel_rfl) (by kernel_rfl) (by kernel_rfl) ?_ (show Mem _ _ from hM1) ?_ ?_
  · exact ⟨fun _ _ _ => rfl, fun _ _ _ => rfl, fun _ _ _ => rfl, trivial⟩
  ·
   refine ⟨?_, ?_, ?_, trivial⟩
   · exact op2 (a := 0) rfl fun e w ρ (hM : Mem _ w) E => res_ok (x_move rfl (E.o 0 _ rfl g0_1)) (goes_still rfl rfl hM)
   ·
    refine op2 (a := 0) rfl fun e w ρ (hM : Mem _ w) E => ?_
    have e6 : ρ (.tmp 6) = .slice a xs.length c := E.d 0 _ 6 rfl rfl rfl
    exact res_ok (x_len (n := 2) rfl rfl rfl rfl (e6) (by kernel_rfl)) (goes_still rfl rfl hM)
   · exact op2 (a := 0) rfl fun e w ρ (hM : Mem _ w) E => res_ok (x_move rfl (E.c _)) (goes_still rfl rfl hM)
  ·
   intro e a2 w2 hz2 hd hG hO hM
   have hd2 := hd.trans hd1
   have g0_2 := (hO 0 rfl).trans g0_1
   have g1_2 := (hO 1 rfl).trans g1_1
   have g4_2 := (hO 4 rfl).trans g4_1
   have g7_2 : a2.tmps[7]? = some (.int .i64 (xs.length : Int)) := hG 1 _ 7 rfl rfl
   have g8_2 : a2.tmps[8]? = some (.int .i64 0) := hG 2 _ 8 rfl rfl
   have hM2 : Mem (boxC lb #[.func (.func 22) #[] #[]] :: R) w2 := hM
   clear hM hG hO hd
   clear hz1 hd1 hM1 g0_1 g1_1 g4_1
   refine then_n ?_
   refine wp_block ?_
   refine loopx (X := Nat) (fun i aa ww => aa.tmps.size = 19 ∧ aa.defers = [] ∧ aa.tmps[0]? = some (.slice a xs.length c) ∧ aa.tmps[1]? = some (.func (.func 24) #[] #[.pointer (some ⟨lb, 0, none⟩)]) ∧ aa.tmps[7]? = some (.int .i64 (xs.length : Int)) ∧ aa.tmps[8]? = some (.int .i64 (i : Int)) ∧ Mem (boxC lb #[.func (.func 22) #[] #[]] :: R) ww ∧ i ≤ xs.length ∧ findI longT (xs.drop i) i = findI longT xs 0) (fun i => xs.length - i) (0) ?_ ?_
   ·
    exact ⟨hz2, hd2, g0_2, g1_2, g7_2, (by have h := g8_2; exact h.trans (by congr 2 <;> first | rfl | omega)), (hM2), (Nat.zero_le _), (rfl)⟩
   ·
    clear hz2 hd2 hM2 g0_2 g1_2 g4_2 g7_2 g8_2
    rintro i a3 w3 hI
    obtain ⟨hz3, hd3, g0_3, g1_3, g7_3, g8_3, hM3, hi, hp⟩ := hI
    refine wp_seq ?_
    refine region_seq 19 (fun zz e => (#[.bool (decide ((i : Int) < (xs.length : Int)))] : Array Value).getD zz undef) (fun k e w => Mem (List.getD [boxC lb #[.func (.func 22) #[] #[]] :: R] k []) w) (fun _ => (0, undef)) [] [0] (fun _ _ => false) hz3 (by kernel_rfl) (by kernel_rfl) (by kernel_rfl) ?_ (show Mem _ _ from hM3) ?_ ?_
    · exact ⟨fun _ _ _ => rfl, trivial⟩
    ·
     refine ⟨?_, trivial⟩
     · exact op2 (a := 0) rfl fun e w ρ (hM : Mem _ w) E => res_ok (x_lss rfl (E.o 8 _ rfl g8_3) (E.o 7 _ rfl g7_3) rfl) (goes_still rfl rfl hM)
    ·
     intro e a4 w4 hz4 hd hG hO hM
     have hd4 := hd.trans hd3
     have g0_4 := (hO 0 rfl).trans g0_3
     have g1_4 := (hO 1 rfl).trans g1_3
     have g7_4 := (hO 7 rfl).trans g7_3
     have g8_4 := (hO 8 rfl).trans g8_3
     have g9_4 : a4.tmps[9]? = some (.bool (decide ((i : Int) < (xs.length : Int)))) := hG 0 _ 9 rfl rfl
     have hM4 : Mem (boxC lb #[.func (.func 22) #[] #[]] :: R) w4 := hM
     clear hM hG hO hd
     clear hz3 hd3 hM3 g0_3 g1_3 g7_3 g8_3
     refine then_n ?_
     refine wp_seq ?_
     by_cases hic : (i : Int) < (xs.length : Int)
     ·
      refine cond_t (g9_4.trans (by rw [decide_eq_true hic])) ?_
      obtain ⟨x, hx⟩ := list_at (show i < xs.length by omega)
      obtain ⟨b1, o1, ha1, hc1⟩ := hR.elem (show ∀ x, (taxE x).length = 2 from fun _ => rfl) (by decide) hx hM4.tail
      refine wp_skip ?_
      refine then_n ?_
      refine wp_seq ?_
      refine wp_block ?_
      refine wp_seq ?_
      refine region_seq 19 (fun zz e => (#[.int .i64 (i : Int), .int .i64 (i : Int)] : Array Value).getD zz undef) (fun k e w => Mem (List.getD [boxC lb #[.func (.func 22) #[] #[]] :: R] k []) w) (fun _ => (0, undef)) [] [0, 0] (fun _ _ => false) hz4 (by kernel_rfl) (by kernel_rfl) (by kernel_rfl) ?_ (show Mem _ _ from hM4) ?_ ?_
      · exact ⟨fun _ _ _ => rfl, fun _ _ _ => rfl, trivial⟩
      ·
       refine ⟨?_, ?_, trivial⟩
       · exact op2 (a := 0) rfl fun e w ρ (hM : Mem _ w) E => res_ok (x_move rfl (E.o 8 _ rfl g8_4)) (goes_still rfl rfl hM)
       · exact op2 (a := 0) rfl fun e w ρ (hM : Mem _ w) E => res_ok (x_assign rfl (E.d 0 _ 10 rfl rfl rfl)) (goes_still rfl rfl hM)
      ·
       intro e a5 w5 hz5 hd hG hO hM
       have hd5 := hd.trans hd4
       have g0_5 := (hO 0 rfl).trans g0_4
       have g1_5 := (hO 1 rfl).trans g1_4
       have g5_5 : a5.tmps[5]? = some (.int .i64 (i : Int)) := hG 1 _ 5 rfl rfl
       have g7_5 := (hO 7 rfl).trans g7_4
       have g8_5 := (hO 8 rfl).trans g8_4
       have g9_5 := (hO 9 rfl).trans g9_4
       have g10_5 : a5.tmps[10]? = some (.int .i64 (i : Int)) := hG 0 _ 10 rfl rfl
       have hM5 : Mem (boxC lb #[.func (.func 22) #[] #[]] :: R) w5 := hM
       clear hM hG hO hd
       clear hz4 hd4 hM4 g0_4 g1_4 g7_4 g8_4 g9_4
       refine then_n ?_
       refine wp_seq ?_
       refine region_seq 19 (fun zz e => (#[.func (.func 24) #[] #[.pointer (some ⟨lb, 0, none⟩)], .slice a xs.length c, .int .i64 (i : Int), .pointer (some ⟨b1, o1 + i * 2, none⟩), .agg #[.string x.code, .int .i64 x.amt], .bool (longT x)] : Array Value).getD zz undef) (fun k e w => Mem (List.getD [boxC lb #[.func (.func 22) #[] #[]] :: R] k []) w) (fun _ => (0, undef)) [] [0, 0, 0, 0, 0, 0] (fun _ _ => false) hz5 (by kernel_rfl) (by kernel_rfl) (by kernel_rfl) ?_ (show Mem _ _ from hM5) ?_ ?_
       · exact ⟨fun _ _ _ => rfl, fun _ _ _ => rfl, fun _ _ _ => rfl, fun _ _ _ => rfl, fun _ _ _ => rfl, fun _ _ _ => rfl, trivial⟩
       ·
        refine ⟨?_, ?_, ?_, ?_, ?_, ?_, trivial⟩
        · exact op2 (a := 0) rfl fun e w ρ (hM : Mem _ w) E => res_ok (x_move rfl (E.o 1 _ rfl g1_5)) (goes_still rfl rfl hM)
        · exact op2 (a := 0) rfl fun e w ρ (hM : Mem _ w) E => res_ok (x_move rfl (E.o 0 _ rfl g0_5)) (goes_still rfl rfl hM)
        · exact op2 (a := 0) rfl fun e w ρ (hM : Mem _ w) E => res_ok (x_move rfl (E.o 5 _ rfl g5_5)) (goes_still rfl rfl hM)
        ·
         refine op2 (a := 0) rfl fun e w ρ (hM : Mem _ w) E => ?_
         have e12 : ρ (.tmp 12) = .slice a xs.length c := E.d 1 _ 12 rfl rfl rfl
         have e13 : ρ (.tmp 13) = .int .i64 (i : Int) := E.d 2 _ 13 rfl rfl rfl
         exact res_ok (x_idx (n := 2) (i := i) rfl (show _ = Value.slice (some ⟨b1, o1, none⟩) (xs.length) c from by rw [← ha1]; exact e12) (e13) (by kernel_rfl) (by omega) rfl) (goes_still rfl rfl hM)
        ·
         refine op2 (a := 0) rfl fun e w ρ (hM : Mem _ w) E => ?_
         have e14 : ρ (.tmp 14) = .pointer (some ⟨b1, o1 + i * 2, none⟩) := E.d 3 _ 14 rfl rfl rfl
         exact res_ok (x_loads rfl (e14) (by kernel_rfl) (load_at (cs := [.string x.code, .int .i64 x.amt]) rfl (hc1 w hM.tail))) (goes_still rfl rfl hM)
        ·
         refine op2 (a := 0) rfl fun e w ρ (hM : Mem _ w) E => ?_
         have e11 : ρ (.tmp 11) = .func (.func 24) #[] #[.pointer (some ⟨lb, 0, none⟩)] := E.d 0 _ 11 rfl rfl rfl
         have e15 : ρ (.tmp 15) = .agg #[.string x.code, .int .i64 x.amt] := E.d 4 _ 15 rfl rfl rfl
         refine res_in (x_call (args := #[.agg #[.string x.code, .int .i64 x.amt], .pointer (some ⟨lb, 0, none⟩)]) rfl rfl (e11) (by simp [e15]) (by kernel_rfl)) ?_
         refine (put2_at lb x _ _ hM).mono ?_
         rintro e' w' ⟨rfl, hm⟩
         exact ⟨_, rfl, goes_still rfl rfl (hm)⟩
       ·
        intro e a6 w6 hz6 hd hG hO hM
        have hd6 := hd.trans hd5
        have g0_6 := (hO 0 rfl).trans g0_5
        have g1_6 := (hO 1 rfl).trans g1_5
        have g5_6 := (hO 5 rfl).trans g5_5
        have g7_6 := (hO 7 rfl).trans g7_5
        have g8_6 := (hO 8 rfl).trans g8_5
        have g9_6 := (hO 9 rfl).trans g9_5
        have g10_6 := (hO 10 rfl).trans g10_5
        have g11_6 : a6.tmps[11]? = some (.func (.func 24) #[] #[.pointer (some ⟨lb, 0, none⟩)]) := hG 0 _ 11 rfl rfl
        have g12_6 : a6.tmps[12]? = some (.slice a xs.length c) := hG 1 _ 12 rfl rfl
        have g13_6 : a6.tmps[13]? = some (.int .i64 (i : Int)) := hG 2 _ 13 rfl rfl
        have g14_6 : a6.tmps[14]? = some (.pointer (some ⟨b1, o1 + i * 2, none⟩)) := hG 3 _ 14 rfl rfl
        have g15_6 : a6.tmps[15]? = some (.agg #[.string x.code, .int .i64 x.amt]) := hG 4 _ 15 rfl rfl
        have g16_6 : a6.tmps[16]? = some (.bool (longT x)) := hG 5 _ 16 rfl rfl
        have hM6 : Mem (boxC lb #[.func (.func 22) #[] #[]] :: R) w6 := hM
        clear hM hG hO hd
        clear hz5 hd5 hM5 g0_5 g1_5 g5_5 g7_5 g8_5 g9_5 g10_5
        refine then_n ?_
        cases hc2 : longT x
        ·
         refine cond_f (g16_6.trans (by rw [hc2])) ?_
         have hnb := hc2
         refine wp_skip ?_
         refine blk_n ?_
         refine then_n ?_
         refine region_seq 19 (fun zz e => (#[.int .i64 ((i + 1 : Nat) : Int), .int .i64 ((i + 1 : Nat) : Int)] : Array Value).getD zz undef) (fun k e w => Mem (List.getD [boxC lb #[.func (.func 22) #[] #[]] :: R] k []) w) (fun _ => (0, undef)) [] [0, 0] (fun i t => (i == 0 && t == 8)) hz6 (by kernel_rfl) (by kernel_rfl) (by kernel_rfl) ?_ (show Mem _ _ from hM6) ?_ ?_
         · exact ⟨fun _ _ _ => rfl, fun _ _ _ => rfl, trivial⟩
         ·
          refine ⟨?_, ?_, trivial⟩
          · exact op2 (a := 0) rfl fun e w ρ (hM : Mem _ w) E => res_ok (x_add rfl (E.o 8 _ rfl g8_6) (E.c _) ((wr_i64 (by omega)).trans (by omega))) (goes_still rfl rfl hM)
          · exact op2 (a := 0) rfl fun e w ρ (hM : Mem _ w) E => res_ok (x_move rfl (E.d 0 _ 18 rfl rfl rfl)) (goes_still rfl rfl hM)
         ·
          intro e a7 w7 hz7 hd hG hO hM
          have hd7 := hd.trans hd6
          have g0_7 := (hO 0 rfl).trans g0_6
          have g1_7 := (hO 1 rfl).trans g1_6
          have g5_7 := (hO 5 rfl).trans g5_6
          have g7_7 := (hO 7 rfl).trans g7_6
          have g8_7 : a7.tmps[8]? = some (.int .i64 ((i + 1 : Nat) : Int)) := hG 1 _ 8 rfl rfl
          have g9_7 := (hO 9 rfl).trans g9_6
          have g10_7 := (hO 10 rfl).trans g10_6
          have g11_7 := (hO 11 rfl).trans g11_6
          have g12_7 := (hO 12 rfl).trans g12_6
          have g13_7 := (hO 13 rfl).trans g13_6
          have g14_7 := (hO 14 rfl).trans g14_6
          have g15_7 := (hO 15 rfl).trans g15_6
          have g16_7 := (hO 16 rfl).trans g16_6
          have g18_7 : a7.tmps[18]? = some (.int .i64 ((i + 1 : Nat) : Int)) := hG 0 _ 18 rfl rfl
          have hM7 : Mem (boxC lb #[.func (.func 22) #[] #[]] :: R) w7 := hM
          clear hM hG hO hd
          clear hz6 hd6 hM6 g0_6 g1_6 g5_6 g7_6 g8_6 g9_6 g10_6 g11_6 g12_6 g13_6 g14_6 g15_6 g16_6
          refine then_n ?_
          exact ⟨i + 1, by omega, ⟨hz7, hd7, g0_7, g1_7, g7_7, (by have h := g8_7; exact h.trans (by congr 2 <;> first | rfl | omega)), (hM7), (by omega), (by rw [← hp, findI_step hx, if_neg (by simp [hnb])])⟩⟩
        ·
         refine cond_t (g16_6.trans (by rw [hc2])) ?_
         refine wp_seq ?_
         refine region_seq 19 (fun zz e => (#[.int .i64 (i : Int), .int .i64 (i : Int)] : Array Value).getD zz undef) (fun k e w => Mem (List.getD [boxC lb #[.func (.func 22) #[] #[]] :: R] k []) w) (fun _ => (0, undef)) [] [0, 0] (fun _ _ => false) hz6 (by kernel_rfl) (by kernel_rfl) (by kernel_rfl) ?_ (show Mem _ _ from hM6) ?_ ?_
         · exact ⟨fun _ _ _ => rfl, fun _ _ _ => rfl, trivial⟩
         ·
          refine ⟨?_, ?_, trivial⟩
          · exact op2 (a := 0) rfl fun e w ρ (hM : Mem _ w) E => res_ok (x_move rfl (E.o 5 _ rfl g5_6)) (goes_still rfl rfl hM)
          · exact op2 (a := 0) rfl fun e w ρ (hM : Mem _ w) E => res_ok (x_assign rfl (E.d 0 _ 17 rfl rfl rfl)) (goes_still rfl rfl hM)
         ·
          intro e a8 w8 hz8 hd hG hO hM
          have hd8 := hd.trans hd6
          have g0_8 := (hO 0 rfl).trans g0_6
          have g1_8 := (hO 1 rfl).trans g1_6
          have g4_8 : a8.tmps[4]? = some (.int .i64 (i : Int)) := hG 1 _ 4 rfl rfl
          have g5_8 := (hO 5 rfl).trans g5_6
          have g7_8 := (hO 7 rfl).trans g7_6
          have g8_8 := (hO 8 rfl).trans g8_6
          have g9_8 := (hO 9 rfl).trans g9_6
          have g10_8 := (hO 10 rfl).trans g10_6
          have g11_8 := (hO 11 rfl).trans g11_6
          have g12_8 := (hO 12 rfl).trans g12_6
          have g13_8 := (hO 13 rfl).trans g13_6
          have g14_8 := (hO 14 rfl).trans g14_6
          have g15_8 := (hO 15 rfl).trans g15_6
          have g16_8 := (hO 16 rfl).trans g16_6
          have g17_8 : a8.tmps[17]? = some (.int .i64 (i : Int)) := hG 0 _ 17 rfl rfl
          have hM8 : Mem (boxC lb #[.func (.func 22) #[] #[]] :: R) w8 := hM
          clear hM hG hO hd
          clear hz6 hd6 hM6 g0_6 g1_6 g5_6 g7_6 g8_6 g9_6 g10_6 g11_6 g12_6 g13_6 g14_6 g15_6 g16_6
          refine then_n ?_
          refine wp_ret ?_
          refine blk_r ?_
          refine then_r ?_
          refine then_r ?_
          refine blk_r ?_
          refine then_r ?_
          refine ret_1 Try.results39 hd8 g4_8 ?_
          exact ⟨by rw [← hp, findI_step hx, if_pos hc2], hM8⟩
     ·
      refine cond_f (g9_4.trans (by rw [decide_eq_false hic])) ?_
      refine wp_exit ?_
      refine then_x ?_
      refine then_x ?_
      refine blk_x ?_
      refine then_n ?_
      refine wp_seq ?_
      refine region_seq 19 (fun zz e => (#[.int .i64 (-1)] : Array Value).getD zz undef) (fun k e w => Mem (List.getD [boxC lb #[.func (.func 22) #[] #[]] :: R] k []) w) (fun _ => (0, undef)) [] [0] (fun _ _ => false) hz4 (by kernel_rfl) (by kernel_rfl) (by kernel_rfl) ?_ (show Mem _ _ from hM4) ?_ ?_
      · exact ⟨fun _ _ _ => rfl, trivial⟩
      ·
       refine ⟨?_, trivial⟩
       · exact op2 (a := 0) rfl fun e w ρ (hM : Mem _ w) E => res_ok (x_assign rfl (E.c _)) (goes_still rfl rfl hM)
      ·
       intro e a9 w9 hz9 hd hG hO hM
       have hd9 := hd.trans hd4
       have g4_9 : a9.tmps[4]? = some (.int .i64 (-1)) := hG 0 _ 4 rfl rfl
       have hM9 : Mem (boxC lb #[.func (.func 22) #[] #[]] :: R) w9 := hM
       clear hM hG hO hd
       clear hz4 hd4 hM4 g0_4 g1_4 g7_4 g8_4 g9_4
       refine then_n ?_
       refine wp_ret ?_
       refine ret_1 Try.results39 hd9 g4_9 ?_
       exact ⟨by rw [← hp, List.drop_of_length_le (by omega)]; rfl, hM9⟩
set_option maxRecDepth 100000 in
set_option maxHeartbeats 8000000 in
theorem anyLong (lb : Nat) (a : Option Addr) (c : Nat) (xs : List TaxV) (R : List Chunk) (w : World) (hM : Mem (boxC lb #[.func (.func 22) #[] #[]] :: R) w) (hR : Reads R a (cellsL taxE xs)) (hn : xs.length ≤ 1000000) :
  Calls Try.prog 23 #[.slice a xs.length c, .func (.func 24) #[] #[.pointer (some ⟨lb, 0, none⟩)]] w fun e w' => e = .returned (.bool (xs.any longT)) ∧ Mem (boxC lb #[.func (.func 22) #[] #[]] :: R) w' := by
 refine enter Try.func23 rfl Try.ntmps23 (Nat.le_of_ble_eq_true rfl) ?_
 intro a0 hz0 hd0 hg0
 have g0_0 : a0.tmps[0]? = some (.slice a xs.length c) := hg0 0 _ rfl
 have g1_0 : a0.tmps[1]? = some (.func (.func 24) #[] #[.pointer (some ⟨lb, 0, none⟩)]) := hg0 1 _ rfl
 clear hg0
 have hM0 : Mem (boxC lb #[.func (.func 22) #[] #[]] :: R) _ := hM
 refine wp_seq ?_
 refine region_seq 9 (fun zz e => (#[.bool false] : Array Value).getD zz undef) (fun k e w => Mem (List.getD [boxC lb #[.func (.func 22) #[] #[]] :: R] k []) w) (fun _ => (0, undef)) [] [0] (fun _ _ => false) hz0 (by kernel_rfl) (by kernel_rfl) (by kernel_rfl) ?_ (show Mem _ _ from hM0) ?_ ?_
 · exact ⟨fun _ _ _ => rfl, trivial⟩
 ·
  refine ⟨?_, trivial⟩
  · exact op2 (a := 0) rfl fun e w ρ (hM : Mem _ w) E => res_ok (x_assign rfl (E.c _)) (goes_still rfl rfl hM)
 ·
  intro e a1 w1 hz1 hd hG hO hM
  have hd1 := hd.trans hd0
  have g0_1 := (hO 0 rfl).trans g0_0
  have g1_1 := (hO 1 rfl).trans g1_0
  have g4_1 : a1.tmps[4]? = some (.bool false) := hG 0 _ 4 rfl rfl
  have hM1 : Mem (boxC lb #[.func (.func 22) #[] #[]] :: R) w1 := hM
  clear hM hG hO hd
  clear hz0 hd0 hM0 g0_0 g1_0
  refine then_n ?_
  refine wp_seq ?_
  refine region_seq 9 (fun zz e => (#[.slice a xs.length c, .func (.func 24) #[] #[.pointer (some ⟨lb, 0, none⟩)], .int .i64 (findI longT xs 0), .bool (decide ((findI longT xs 0) ≥ 0)), .bool (decide ((findI longT xs 0) ≥ 0))] : Array Value).getD zz undef) (fun k e w => Mem (List.getD [boxC lb #[.func (.func 22) #[] #[]] :: R] k []) w) (fun _ => (0, undef)) [] [0, 0, 0, 0, 0] (fun _ _ => false) hz1 (by kernel_rfl) (by kernel_rfl) (by kernel_rfl) ?_ (show Mem _ _ from hM1) ?_ ?_
  · exact ⟨fun _ _ _ => rfl, fun _ _ _ => rfl, fun _ _ _ => rfl, fun _ _ _ => rfl, fun _ _ _ => rfl, trivial⟩
  ·
   refine ⟨?_, ?_, ?_, ?_, ?_, trivial⟩
   · exact op2 (a := 0) rfl fun e w ρ (hM : Mem _ w) E => res_ok (x_move rfl (E.o 0 _ rfl g0_1)) (goes_still rfl rfl hM)
   · exact op2 (a := 0) rfl fun e w ρ (hM : Mem _ w) E => res_ok (x_move rfl (E.o 1 _ rfl g1_1)) (goes_still rfl rfl hM)
   ·
    refine op2 (a := 0) rfl fun e w ρ (hM : Mem _ w) E => ?_
    have e5 : ρ (.tmp 5) = .slice a xs.length c := E.d 0 _ 5 rfl rfl rfl
    have e6 : ρ (.tmp 6) = .func (.func 24) #[] #[.pointer (some ⟨lb, 0, none⟩)] := E.d 1 _ 6 rfl rfl rfl
    refine res_in (x_call (args := #[.slice a xs.length c, .func (.func 24) #[] #[.pointer (some ⟨lb, 0, none⟩)]]) rfl rfl (E.f _) (by simp [e5, e6]) (by kernel_rfl)) ?_
    refine (indexLong lb a c xs _ _ hM hR hn).mono ?_
    rintro e' w' ⟨rfl, hm⟩
    exact ⟨_, rfl, goes_still rfl rfl (hm)⟩
   · exact op2 (a := 0) rfl fun e w ρ (hM : Mem _ w) E => res_ok (x_geq rfl (E.d 2 _ 7 rfl rfl rfl) (E.c _) rfl) (goes_still rfl rfl hM)
   · exact op2 (a := 0) rfl fun e w ρ (hM : Mem _ w) E => res_ok (x_assign rfl (E.d 3 _ 8 rfl rfl rfl)) (goes_still rfl rfl hM)
  ·
   intro e a2 w2 hz2 hd hG hO hM
   have hd2 := hd.trans hd1
   have g4_2 : a2.tmps[4]? = some (.bool (decide ((findI longT xs 0) ≥ 0))) := hG 4 _ 4 rfl rfl
   have hM2 : Mem (boxC lb #[.func (.func 22) #[] #[]] :: R) w2 := hM
   clear hM hG hO hd
   clear hz1 hd1 hM1 g0_1 g1_1 g4_1
   refine then_n ?_
   refine wp_ret ?_
   refine ret_1 Try.results23 hd2 g4_2 ?_
   exact ⟨by rw [← findI_any xs 0], hM2⟩
set_option maxRecDepth 100000 in
set_option maxHeartbeats 8000000 in
theorem cut_at (r : RecV) (al at1 : Option Addr) (cl ct : Nat) (R : List Chunk) (w : World) (hM : Mem R w) :
  Calls Try.prog 21 #[.agg (recCells r (.slice al r.cmd.legs.length cl) (.slice at1 r.cmd.taxes.length ct))] w fun e w' => e = .returned (.agg (recCells (cutV r) (if r.kind = 1 then .slice al r.cmd.legs.length cl else .slice none 0 0) (if r.kind = 1 then .slice at1 r.cmd.taxes.length ct else .slice none 0 0))) ∧ Mem R w' := by
 refine enter Try.func21 rfl Try.ntmps21 (Nat.le_of_ble_eq_true rfl) ?_
 intro a0 hz0 hd0 hg0
 have g0_0 : a0.tmps[0]? = some (.agg (recCells r (.slice al r.cmd.legs.length cl) (.slice at1 r.cmd.taxes.length ct))) := hg0 0 _ rfl
 clear hg0
 have hM0 : Mem (R) _ := hM
 refine wp_seq ?_
 refine region_seq 30 (fun zz e => (#[.pointer (some ⟨(e 0).1, 0, none⟩), .pointer (some ⟨(e 1).1, 0, none⟩)] : Array Value).getD zz undef) (fun k e w => Mem (List.getD [R, boxC ((e 0).1) (recCells r (.slice al r.cmd.legs.length cl) (.slice at1 r.cmd.taxes.length ct)) :: R, boxC ((e 1).1) #[.int .u8 0, .int .u8 0, .int .u8 0, .int .u64 0, .int .u8 0, .string ByteArray.empty, .slice none 0 0, .int .i64 0, .slice none 0 0, .int .i64 0, .int .i64 0, .int .u8 0, .int .u64 0, .int .u8 0, .int .u8 0, .int .u64 0, .int .u8 0, .int .u8 0, .int .u16 0, .int .u32 0, .int .i64 0, .int .u8 0, .int .u32 0, .int .i64 0, .int .i64 0] :: boxC ((e 0).1) (recCells r (.slice al r.cmd.legs.length cl) (.slice at1 r.cmd.taxes.length ct)) :: R] k []) w) (fun _ => (0, undef)) [0, 1] [0, 1] (fun _ _ => false) hz0 (by kernel_rfl) (by kernel_rfl) (by kernel_rfl) ?_ (show Mem _ _ from hM0) ?_ ?_
 · exact ⟨fun e e' h => congrArg (fun x : Rv => (.pointer (some ⟨x.1, 0, none⟩) : Value)) (h 0 (by decide)), fun e e' h => congrArg (fun x : Rv => (.pointer (some ⟨x.1, 0, none⟩) : Value)) (h 1 (by decide)), trivial⟩
 ·
  refine ⟨?_, ?_, trivial⟩
  ·
   refine op2 (a := 0) rfl fun e w ρ (hM : Mem _ w) E => ?_
   have e0 : ρ (.tmp 0) = .agg (recCells r (.slice al r.cmd.legs.length cl) (.slice at1 r.cmd.taxes.length ct)) := E.o 0 _ rfl g0_0
   exact res_ok (x_box rfl (e0)) (goes_tick rfl (w.heap.size, undef) rfl (hM.alloc _ _))
  ·
   refine op2 (a := 1) rfl fun e w ρ (hM : Mem _ w) E => ?_
   exact res_ok (x_alloc (z := .agg #[.int .u8 0, .int .u8 0, .int .u8 0, .int .u64 0, .int .u8 0, .string ByteArray.empty, .slice none 0 0, .int .i64 0, .slice none 0 0, .int .i64 0, .int .i64 0, .int .u8 0, .int .u64 0, .int .u8 0, .int .u8 0, .int .u64 0, .int .u8 0, .int .u8 0, .int .u16 0, .int .u32 0, .int .i64 0, .int .u8 0, .int .u32 0, .int .i64 0, .int .i64 0]) rfl (by kernel_rfl)) (goes_tick rfl (w.heap.size, undef) rfl (hM.alloc _ _))
 ·
  intro e a1 w1 hz1 hd hG hO hM
  have hd1 := hd.trans hd0
  have g1_1 : a1.tmps[1]? = some (.pointer (some ⟨(e 0).1, 0, none⟩)) := hG 0 _ 1 rfl rfl
  have g2_1 : a1.tmps[2]? = some (.pointer (some ⟨(e 1).1, 0, none⟩)) := hG 1 _ 2 rfl rfl
  have hM1 : Mem (boxC ((e 1).1) #[.int .u8 0, .int .u8 0, .int .u8 0, .int .u64 0, .int .u8 0, .string ByteArray.empty, .slice none 0 0, .int .i64 0, .slice none 0 0, .int .i64 0, .int .i64 0, .int .u8 0, .int .u64 0, .int .u8 0, .int .u8 0, .int .u64 0, .int .u8 0, .int .u8 0, .int .u16 0, .int .u32 0, .int .i64 0, .int .u8 0, .int .u32 0, .int .i64 0, .int .i64 0] :: boxC ((e 0).1) (recCells r (.slice al r.cmd.legs.length cl) (.slice at1 r.cmd.taxes.length ct)) :: R) w1 := hM
  clear hM hG hO hd
  clear hz0 hd0 hM0 g0_0
  generalize (e 0).1 = b1_0 at *
  generalize (e 1).1 = b1_1 at *
  refine then_n ?_
  refine wp_seq ?_
  refine wp_seq ?_
  refine region_seq 30 (fun zz e => (#[.pointer (some ⟨b1_0, 0, none⟩), .int .u8 r.kind] : Array Value).getD zz undef) (fun k e w => Mem (List.getD [boxC b1_1 #[.int .u8 0, .int .u8 0, .int .u8 0, .int .u64 0, .int .u8 0, .string ByteArray.empty, .slice none 0 0, .int .i64 0, .slice none 0 0, .int .i64 0, .int .i64 0, .int .u8 0, .int .u64 0, .int .u8 0, .int .u8 0, .int .u64 0, .int .u8 0, .int .u8 0, .int .u16 0, .int .u32 0, .int .i64 0, .int .u8 0, .int .u32 0, .int .i64 0, .int .i64 0] :: boxC b1_0 (recCells r (.slice al r.cmd.legs.length cl) (.slice at1 r.cmd.taxes.length ct)) :: R] k []) w) (fun _ => (0, undef)) [] [0, 0] (fun _ _ => false) hz1 (by kernel_rfl) (by kernel_rfl) (by kernel_rfl) ?_ (show Mem _ _ from hM1) ?_ ?_
  · exact ⟨fun _ _ _ => rfl, fun _ _ _ => rfl, trivial⟩
  ·
   refine ⟨?_, ?_, trivial⟩
   · exact op2 (a := 0) rfl fun e w ρ (hM : Mem _ w) E => res_ok (x_fieldAddr (off := 0) rfl (E.o 1 _ rfl g1_1) (by kernel_rfl) rfl) (goes_still rfl rfl hM)
   · exact op2 (a := 0) rfl fun e w ρ (hM : Mem _ w) E => res_ok (x_load rfl (E.d 0 _ 3 rfl rfl rfl) (by kernel_rfl) ((hM.box 1 rfl).cell 0 rfl)) (goes_still rfl rfl hM)
  ·
   intro e a2 w2 hz2 hd hG hO hM
   have hd2 := hd.trans hd1
   have g1_2 := (hO 1 rfl).trans g1_1
   have g2_2 := (hO 2 rfl).trans g2_1
   have g4_2 : a2.tmps[4]? = some (.int .u8 r.kind) := hG 1 _ 4 rfl rfl
   have hM2 : Mem (boxC b1_1 #[.int .u8 0, .int .u8 0, .int .u8 0, .int .u64 0, .int .u8 0, .string ByteArray.empty, .slice none 0 0, .int .i64 0, .slice none 0 0, .int .i64 0, .int .i64 0, .int .u8 0, .int .u64 0, .int .u8 0, .int .u8 0, .int .u64 0, .int .u8 0, .int .u8 0, .int .u16 0, .int .u32 0, .int .i64 0, .int .u8 0, .int .u32 0, .int .i64 0, .int .i64 0] :: boxC b1_0 (recCells r (.slice al r.cmd.legs.length cl) (.slice at1 r.cmd.taxes.length ct)) :: R) w2 := hM
   clear hM hG hO hd
   clear hz1 hd1 hM1 g1_1 g2_1
   refine then_n ?_
   refine wp_block ?_
   refine wp_seq ?_
   refine region_seq 30 (fun zz e => (#[.bool (decide (r.kind = 1)), .bool (decide (r.kind = 1))] : Array Value).getD zz undef) (fun k e w => Mem (List.getD [boxC b1_1 #[.int .u8 0, .int .u8 0, .int .u8 0, .int .u64 0, .int .u8 0, .string ByteArray.empty, .slice none 0 0, .int .i64 0, .slice none 0 0, .int .i64 0, .int .i64 0, .int .u8 0, .int .u64 0, .int .u8 0, .int .u8 0, .int .u64 0, .int .u8 0, .int .u8 0, .int .u16 0, .int .u32 0, .int .i64 0, .int .u8 0, .int .u32 0, .int .i64 0, .int .i64 0] :: boxC b1_0 (recCells r (.slice al r.cmd.legs.length cl) (.slice at1 r.cmd.taxes.length ct)) :: R] k []) w) (fun _ => (0, undef)) [] [0, 0] (fun _ _ => false) hz2 (by kernel_rfl) (by kernel_rfl) (by kernel_rfl) ?_ (show Mem _ _ from hM2) ?_ ?_
   · exact ⟨fun _ _ _ => rfl, fun _ _ _ => rfl, trivial⟩
   ·
    refine ⟨?_, ?_, trivial⟩
    · exact op2 (a := 0) rfl fun e w ρ (hM : Mem _ w) E => res_ok (x_eql rfl (E.o 4 _ rfl g4_2) (E.c _) rfl) (goes_still rfl rfl hM)
    · exact op2 (a := 0) rfl fun e w ρ (hM : Mem _ w) E => res_ok (x_assign rfl (E.d 0 _ 6 rfl rfl rfl)) (goes_still rfl rfl hM)
   ·
    intro e a3 w3 hz3 hd hG hO hM
    have hd3 := hd.trans hd2
    have g1_3 := (hO 1 rfl).trans g1_2
    have g2_3 := (hO 2 rfl).trans g2_2
    have g4_3 := (hO 4 rfl).trans g4_2
    have g5_3 : a3.tmps[5]? = some (.bool (decide (r.kind = 1))) := hG 1 _ 5 rfl rfl
    have hM3 : Mem (boxC b1_1 #[.int .u8 0, .int .u8 0, .int .u8 0, .int .u64 0, .int .u8 0, .string ByteArray.empty, .slice none 0 0, .int .i64 0, .slice none 0 0, .int .i64 0, .int .i64 0, .int .u8 0, .int .u64 0, .int .u8 0, .int .u8 0, .int .u64 0, .int .u8 0, .int .u8 0, .int .u16 0, .int .u32 0, .int .i64 0, .int .u8 0, .int .u32 0, .int .i64 0, .int .i64 0] :: boxC b1_0 (recCells r (.slice al r.cmd.legs.length cl) (.slice at1 r.cmd.taxes.length ct)) :: R) w3 := hM
    clear hM hG hO hd
    clear hz2 hd2 hM2 g1_2 g2_2 g4_2
    refine then_n ?_
    by_cases hc1 : r.kind = 1
    ·
     refine cond_t (g5_3.trans (by rw [decide_eq_true hc1])) ?_
     refine wp_seq ?_
     refine region_seq 30 (fun zz e => (#[.pointer (some ⟨b1_0, 0, none⟩), .int .u8 r.kind, .pointer (some ⟨b1_0, 1, none⟩), .agg #[.int .u8 r.cmd.kind, .int .u8 r.cmd.tick.c, .int .u64 r.cmd.tick.r, .int .u8 r.cmd.at_, .string r.cmd.name, .slice al r.cmd.legs.length cl, .int .i64 r.cmd.fare, .slice at1 r.cmd.taxes.length ct, .int .i64 r.cmd.penalty, .int .i64 r.cmd.amount], .agg #[.int .u8 r.kind, .int .u8 r.cmd.kind, .int .u8 r.cmd.tick.c, .int .u64 r.cmd.tick.r, .int .u8 r.cmd.at_, .string r.cmd.name, .slice al r.cmd.legs.length cl, .int .i64 r.cmd.fare, .slice at1 r.cmd.taxes.length ct, .int .i64 r.cmd.penalty, .int .i64 r.cmd.amount, .int .u8 0, .int .u64 0, .int .u8 0, .int .u8 0, .int .u64 0, .int .u8 0, .int .u8 0, .int .u16 0, .int .u32 0, .int .i64 0, .int .u8 0, .int .u32 0, .int .i64 0, .int .i64 0], undef] : Array Value).getD zz undef) (fun k e w => Mem (List.getD [boxC b1_1 #[.int .u8 0, .int .u8 0, .int .u8 0, .int .u64 0, .int .u8 0, .string ByteArray.empty, .slice none 0 0, .int .i64 0, .slice none 0 0, .int .i64 0, .int .i64 0, .int .u8 0, .int .u64 0, .int .u8 0, .int .u8 0, .int .u64 0, .int .u8 0, .int .u8 0, .int .u16 0, .int .u32 0, .int .i64 0, .int .u8 0, .int .u32 0, .int .i64 0, .int .i64 0] :: boxC b1_0 (recCells r (.slice al r.cmd.legs.length cl) (.slice at1 r.cmd.taxes.length ct)) :: R, boxC b1_1 #[.int .u8 r.kind, .int .u8 r.cmd.kind, .int .u8 r.cmd.tick.c, .int .u64 r.cmd.tick.r, .int .u8 r.cmd.at_, .string r.cmd.name, .slice al r.cmd.legs.length cl, .int .i64 r.cmd.fare, .slice at1 r.cmd.taxes.length ct, .int .i64 r.cmd.penalty, .int .i64 r.cmd.amount, .int .u8 0, .int .u64 0, .int .u8 0, .int .u8 0, .int .u64 0, .int .u8 0, .int .u8 0, .int .u16 0, .int .u32 0, .int .i64 0, .int .u8 0, .int .u32 0, .int .i64 0, .int .i64 0] :: boxC b1_0 (recCells r (.slice al r.cmd.legs.length cl) (.slice at1 r.cmd.taxes.length ct)) :: R] k []) w) (fun _ => (0, undef)) [5] [0, 0, 0, 0, 0, 0] (fun _ _ => false) hz3 (by kernel_rfl) (by kernel_rfl) (by kernel_rfl) ?_ (show Mem _ _ from hM3) ?_ ?_
     · exact ⟨fun _ _ _ => rfl, fun _ _ _ => rfl, fun _ _ _ => rfl, fun _ _ _ => rfl, fun _ _ _ => rfl, fun _ _ _ => rfl, trivial⟩
     ·
      refine ⟨?_, ?_, ?_, ?_, ?_, ?_, trivial⟩
      · exact op2 (a := 0) rfl fun e w ρ (hM : Mem _ w) E => res_ok (x_fieldAddr (off := 0) rfl (E.o 1 _ rfl g1_3) (by kernel_rfl) rfl) (goes_still rfl rfl hM)
      · exact op2 (a := 0) rfl fun e w ρ (hM : Mem _ w) E => res_ok (x_load rfl (E.d 0 _ 7 rfl rfl rfl) (by kernel_rfl) ((hM.box 1 rfl).cell 0 rfl)) (goes_still rfl rfl hM)
      · exact op2 (a := 0) rfl fun e w ρ (hM : Mem _ w) E => res_ok (x_fieldAddr (off := 1) rfl (E.o 1 _ rfl g1_3) (by kernel_rfl) rfl) (goes_still rfl rfl hM)
      · exact op2 (a := 0) rfl fun e w ρ (hM : Mem _ w) E => res_ok (x_loads rfl (E.d 2 _ 9 rfl rfl rfl) (by kernel_rfl) (load_part (hM.box 1 rfl) [.int .u8 r.cmd.kind, .int .u8 r.cmd.tick.c, .int .u64 r.cmd.tick.r, .int .u8 r.cmd.at_, .string r.cmd.name, .slice al r.cmd.legs.length cl, .int .i64 r.cmd.fare, .slice at1 r.cmd.taxes.length ct, .int .i64 r.cmd.penalty, .int .i64 r.cmd.amount] rfl (Nat.le_of_ble_eq_true rfl) rfl)) (goes_still rfl rfl hM)
      ·
       refine op2 (a := 0) rfl fun e w ρ (hM : Mem _ w) E => ?_
       have e8 : ρ (.tmp 8) = .int .u8 r.kind := E.d 1 _ 8 rfl rfl rfl
       have e10 : ρ (.tmp 10) = .agg #[.int .u8 r.cmd.kind, .int .u8 r.cmd.tick.c, .int .u64 r.cmd.tick.r, .int .u8 r.cmd.at_, .string r.cmd.name, .slice al r.cmd.legs.length cl, .int .i64 r.cmd.fare, .slice at1 r.cmd.taxes.length ct, .int .i64 r.cmd.penalty, .int .i64 r.cmd.amount] := E.d 3 _ 10 rfl rfl rfl
       exact res_ok (v := .agg #[.int .u8 r.kind, .int .u8 r.cmd.kind, .int .u8 r.cmd.tick.c, .int .u64 r.cmd.tick.r, .int .u8 r.cmd.at_, .string r.cmd.name, .slice al r.cmd.legs.length cl, .int .i64 r.cmd.fare, .slice at1 r.cmd.taxes.length ct, .int .i64 r.cmd.penalty, .int .i64 r.cmd.amount, .int .u8 0, .int .u64 0, .int .u8 0, .int .u8 0, .int .u64 0, .int .u8 0, .int .u8 0, .int .u16 0, .int .u32 0, .int .i64 0, .int .u8 0, .int .u32 0, .int .i64 0, .int .i64 0]) (by simp [go_sem, execOp, Instr.build, Instr.fill, E.c, E.f, e10, e8] <;> rfl) (goes_still rfl rfl hM)
      ·
       refine op2 (a := 0) rfl fun e w ρ (hM : Mem _ w) E => ?_
       have e2 := E.o 2 _ rfl g2_3
       have e11 := E.d 4 _ 11 rfl rfl rfl
       obtain ⟨w', hr, hm⟩ := Mem.store (P := Try.prog) hM 0 rfl 44 0 (.agg #[.int .u8 r.kind, .int .u8 r.cmd.kind, .int .u8 r.cmd.tick.c, .int .u64 r.cmd.tick.r, .int .u8 r.cmd.at_, .string r.cmd.name, .slice al r.cmd.legs.length cl, .int .i64 r.cmd.fare, .slice at1 r.cmd.taxes.length ct, .int .i64 r.cmd.penalty, .int .i64 r.cmd.amount, .int .u8 0, .int .u64 0, .int .u8 0, .int .u8 0, .int .u64 0, .int .u8 0, .int .u8 0, .int .u16 0, .int .u32 0, .int .i64 0, .int .u8 0, .int .u32 0, .int .i64 0, .int .i64 0]) [.int .u8 r.kind, .int .u8 r.cmd.kind, .int .u8 r.cmd.tick.c, .int .u64 r.cmd.tick.r, .int .u8 r.cmd.at_, .string r.cmd.name, .slice al r.cmd.legs.length cl, .int .i64 r.cmd.fare, .slice at1 r.cmd.taxes.length ct, .int .i64 r.cmd.penalty, .int .i64 r.cmd.amount, .int .u8 0, .int .u64 0, .int .u8 0, .int .u8 0, .int .u64 0, .int .u8 0, .int .u8 0, .int .u16 0, .int .u32 0, .int .i64 0, .int .u8 0, .int .u32 0, .int .i64 0, .int .i64 0] rfl (by kernel_rfl) (Nat.le_of_ble_eq_true rfl) (by rfl)
       exact res_st (x_store rfl (e2) (e11) hr) (goes_tick rfl (0, undef) rfl hm)
     ·
      intro e a4 w4 hz4 hd hG hO hM
      have hd4 := hd.trans hd3
      have g1_4 := (hO 1 rfl).trans g1_3
      have g2_4 := (hO 2 rfl).trans g2_3
      have hM4 : Mem (boxC b1_1 #[.int .u8 r.kind, .int .u8 r.cmd.kind, .int .u8 r.cmd.tick.c, .int .u64 r.cmd.tick.r, .int .u8 r.cmd.at_, .string r.cmd.name, .slice al r.cmd.legs.length cl, .int .i64 r.cmd.fare, .slice at1 r.cmd.taxes.length ct, .int .i64 r.cmd.penalty, .int .i64 r.cmd.amount, .int .u8 0, .int .u64 0, .int .u8 0, .int .u8 0, .int .u64 0, .int .u8 0, .int .u8 0, .int .u16 0, .int .u32 0, .int .i64 0, .int .u8 0, .int .u32 0, .int .i64 0, .int .i64 0] :: boxC b1_0 (recCells r (.slice al r.cmd.legs.length cl) (.slice at1 r.cmd.taxes.length ct)) :: R) w4 := hM
      clear hM hG hO hd
      clear hz3 hd3 hM3 g1_3 g2_3 g4_3 g5_3
      refine then_n ?_
      refine wp_ret ?_
      refine blk_r ?_
      refine then_r ?_
      refine ret_c Try.results21 hd4 g2_4 (by kernel_rfl) (load_part (hM4.box 0 rfl) [.int .u8 r.kind, .int .u8 r.cmd.kind, .int .u8 r.cmd.tick.c, .int .u64 r.cmd.tick.r, .int .u8 r.cmd.at_, .string r.cmd.name, .slice al r.cmd.legs.length cl, .int .i64 r.cmd.fare, .slice at1 r.cmd.taxes.length ct, .int .i64 r.cmd.penalty, .int .i64 r.cmd.amount, .int .u8 0, .int .u64 0, .int .u8 0, .int .u8 0, .int .u64 0, .int .u8 0, .int .u8 0, .int .u16 0, .int .u32 0, .int .i64 0, .int .u8 0, .int .u32 0, .int .i64 0, .int .i64 0] rfl (Nat.le_of_ble_eq_true rfl) rfl) ?_
      exact ⟨by have e1 : cutV r = _ := if_pos hc1; rw [e1, if_pos hc1, if_pos hc1]; rfl, hM4.tail.tail⟩
    ·
     refine cond_f (g5_3.trans (by rw [decide_eq_false hc1])) ?_
     refine wp_seq ?_
     refine region_seq 30 (fun zz e => (#[.bool (decide (r.kind = 2)), .bool (decide (r.kind = 2))] : Array Value).getD zz undef) (fun k e w => Mem (List.getD [boxC b1_1 #[.int .u8 0, .int .u8 0, .int .u8 0, .int .u64 0, .int .u8 0, .string ByteArray.empty, .slice none 0 0, .int .i64 0, .slice none 0 0, .int .i64 0, .int .i64 0, .int .u8 0, .int .u64 0, .int .u8 0, .int .u8 0, .int .u64 0, .int .u8 0, .int .u8 0, .int .u16 0, .int .u32 0, .int .i64 0, .int .u8 0, .int .u32 0, .int .i64 0, .int .i64 0] :: boxC b1_0 (recCells r (.slice al r.cmd.legs.length cl) (.slice at1 r.cmd.taxes.length ct)) :: R] k []) w) (fun _ => (0, undef)) [] [0, 0] (fun _ _ => false) hz3 (by kernel_rfl) (by kernel_rfl) (by kernel_rfl) ?_ (show Mem _ _ from hM3) ?_ ?_
     · exact ⟨fun _ _ _ => rfl, fun _ _ _ => rfl, trivial⟩
     ·
      refine ⟨?_, ?_, trivial⟩
      · exact op2 (a := 0) rfl fun e w ρ (hM : Mem _ w) E => res_ok (x_eql rfl (E.o 4 _ rfl g4_3) (E.c _) rfl) (goes_still rfl rfl hM)
      · exact op2 (a := 0) rfl fun e w ρ (hM : Mem _ w) E => res_ok (x_assign rfl (E.d 0 _ 13 rfl rfl rfl)) (goes_still rfl rfl hM)
     ·
      intro e a5 w5 hz5 hd hG hO hM
      have hd5 := hd.trans hd3
      have g1_5 := (hO 1 rfl).trans g1_3
      have g2_5 := (hO 2 rfl).trans g2_3
      have g12_5 : a5.tmps[12]? = some (.bool (decide (r.kind = 2))) := hG 1 _ 12 rfl rfl
      have hM5 : Mem (boxC b1_1 #[.int .u8 0, .int .u8 0, .int .u8 0, .int .u64 0, .int .u8 0, .string ByteArray.empty, .slice none 0 0, .int .i64 0, .slice none 0 0, .int .i64 0, .int .i64 0, .int .u8 0, .int .u64 0, .int .u8 0, .int .u8 0, .int .u64 0, .int .u8 0, .int .u8 0, .int .u16 0, .int .u32 0, .int .i64 0, .int .u8 0, .int .u32 0, .int .i64 0, .int .i64 0] :: boxC b1_0 (recCells r (.slice al r.cmd.legs.length cl) (.slice at1 r.cmd.taxes.length ct)) :: R) w5 := hM
      clear hM hG hO hd
      clear hz3 hd3 hM3 g1_3 g2_3 g4_3 g5_3
      refine then_n ?_
      by_cases hc2 : r.kind = 2
      ·
       refine cond_t (g12_5.trans (by rw [decide_eq_true hc2])) ?_
       refine wp_seq ?_
       refine region_seq 30 (fun zz e => (#[.pointer (some ⟨b1_0, 0, none⟩), .int .u8 r.kind, .pointer (some ⟨b1_0, 11, none⟩), .int .u8 r.frm, .pointer (some ⟨b1_0, 12, none⟩), .int .u64 r.number, .pointer (some ⟨b1_0, 13, none⟩), .agg #[.int .u8 r.msg.kind, .int .u8 r.msg.tick.c, .int .u64 r.msg.tick.r, .int .u8 r.msg.at_, .int .u8 r.msg.leg.c, .int .u16 r.msg.leg.f, .int .u32 r.msg.leg.x, .int .i64 r.msg.value, .int .u8 r.msg.status, .int .u32 r.msg.nonce, .int .i64 r.msg.amount, .int .i64 r.msg.code], .agg #[.int .u8 r.kind, .int .u8 0, .int .u8 0, .int .u64 0, .int .u8 0, .string ByteArray.empty, .slice none 0 0, .int .i64 0, .slice none 0 0, .int .i64 0, .int .i64 0, .int .u8 r.frm, .int .u64 r.number, .int .u8 r.msg.kind, .int .u8 r.msg.tick.c, .int .u64 r.msg.tick.r, .int .u8 r.msg.at_, .int .u8 r.msg.leg.c, .int .u16 r.msg.leg.f, .int .u32 r.msg.leg.x, .int .i64 r.msg.value, .int .u8 r.msg.status, .int .u32 r.msg.nonce, .int .i64 r.msg.amount, .int .i64 r.msg.code], undef] : Array Value).getD zz undef) (fun k e w => Mem (List.getD [boxC b1_1 #[.int .u8 0, .int .u8 0, .int .u8 0, .int .u64 0, .int .u8 0, .string ByteArray.empty, .slice none 0 0, .int .i64 0, .slice none 0 0, .int .i64 0, .int .i64 0, .int .u8 0, .int .u64 0, .int .u8 0, .int .u8 0, .int .u64 0, .int .u8 0, .int .u8 0, .int .u16 0, .int .u32 0, .int .i64 0, .int .u8 0, .int .u32 0, .int .i64 0, .int .i64 0] :: boxC b1_0 (recCells r (.slice al r.cmd.legs.length cl) (.slice at1 r.cmd.taxes.length ct)) :: R, boxC b1_1 #[.int .u8 r.kind, .int .u8 0, .int .u8 0, .int .u64 0, .int .u8 0, .string ByteArray.empty, .slice none 0 0, .int .i64 0, .slice none 0 0, .int .i64 0, .int .i64 0, .int .u8 r.frm, .int .u64 r.number, .int .u8 r.msg.kind, .int .u8 r.msg.tick.c, .int .u64 r.msg.tick.r, .int .u8 r.msg.at_, .int .u8 r.msg.leg.c, .int .u16 r.msg.leg.f, .int .u32 r.msg.leg.x, .int .i64 r.msg.value, .int .u8 r.msg.status, .int .u32 r.msg.nonce, .int .i64 r.msg.amount, .int .i64 r.msg.code] :: boxC b1_0 (recCells r (.slice al r.cmd.legs.length cl) (.slice at1 r.cmd.taxes.length ct)) :: R] k []) w) (fun _ => (0, undef)) [9] [0, 0, 0, 0, 0, 0, 0, 0, 0, 0] (fun _ _ => false) hz5 (by kernel_rfl) (by kernel_rfl) (by kernel_rfl) ?_ (show Mem _ _ from hM5) ?_ ?_
       · exact ⟨fun _ _ _ => rfl, fun _ _ _ => rfl, fun _ _ _ => rfl, fun _ _ _ => rfl, fun _ _ _ => rfl, fun _ _ _ => rfl, fun _ _ _ => rfl, fun _ _ _ => rfl, fun _ _ _ => rfl, fun _ _ _ => rfl, trivial⟩
       ·
        refine ⟨?_, ?_, ?_, ?_, ?_, ?_, ?_, ?_, ?_, ?_, trivial⟩
        · exact op2 (a := 0) rfl fun e w ρ (hM : Mem _ w) E => res_ok (x_fieldAddr (off := 0) rfl (E.o 1 _ rfl g1_5) (by kernel_rfl) rfl) (goes_still rfl rfl hM)
        · exact op2 (a := 0) rfl fun e w ρ (hM : Mem _ w) E => res_ok (x_load rfl (E.d 0 _ 14 rfl rfl rfl) (by kernel_rfl) ((hM.box 1 rfl).cell 0 rfl)) (goes_still rfl rfl hM)
        · exact op2 (a := 0) rfl fun e w ρ (hM : Mem _ w) E => res_ok (x_fieldAddr (off := 11) rfl (E.o 1 _ rfl g1_5) (by kernel_rfl) rfl) (goes_still rfl rfl hM)
        · exact op2 (a := 0) rfl fun e w ρ (hM : Mem _ w) E => res_ok (x_load rfl (E.d 2 _ 16 rfl rfl rfl) (by kernel_rfl) ((hM.box 1 rfl).cell 11 rfl)) (goes_still rfl rfl hM)
        · exact op2 (a := 0) rfl fun e w ρ (hM : Mem _ w) E => res_ok (x_fieldAddr (off := 12) rfl (E.o 1 _ rfl g1_5) (by kernel_rfl) rfl) (goes_still rfl rfl hM)
        · exact op2 (a := 0) rfl fun e w ρ (hM : Mem _ w) E => res_ok (x_load rfl (E.d 4 _ 18 rfl rfl rfl) (by kernel_rfl) ((hM.box 1 rfl).cell 12 rfl)) (goes_still rfl rfl hM)
        · exact op2 (a := 0) rfl fun e w ρ (hM : Mem _ w) E => res_ok (x_fieldAddr (off := 13) rfl (E.o 1 _ rfl g1_5) (by kernel_rfl) rfl) (goes_still rfl rfl hM)
        · exact op2 (a := 0) rfl fun e w ρ (hM : Mem _ w) E => res_ok (x_loads rfl (E.d 6 _ 20 rfl rfl rfl) (by kernel_rfl) (load_part (hM.box 1 rfl) [.int .u8 r.msg.kind, .int .u8 r.msg.tick.c, .int .u64 r.msg.tick.r, .int .u8 r.msg.at_, .int .u8 r.msg.leg.c, .int .u16 r.msg.leg.f, .int .u32 r.msg.leg.x, .int .i64 r.msg.value, .int .u8 r.msg.status, .int .u32 r.msg.nonce, .int .i64 r.msg.amount, .int .i64 r.msg.code] rfl (Nat.le_of_ble_eq_true rfl) rfl)) (goes_still rfl rfl hM)
        ·
         refine op2 (a := 0) rfl fun e w ρ (hM : Mem _ w) E => ?_
         have e15 : ρ (.tmp 15) = .int .u8 r.kind := E.d 1 _ 15 rfl rfl rfl
         have e17 : ρ (.tmp 17) = .int .u8 r.frm := E.d 3 _ 17 rfl rfl rfl
         have e19 : ρ (.tmp 19) = .int .u64 r.number := E.d 5 _ 19 rfl rfl rfl
         have e21 : ρ (.tmp 21) = .agg #[.int .u8 r.msg.kind, .int .u8 r.msg.tick.c, .int .u64 r.msg.tick.r, .int .u8 r.msg.at_, .int .u8 r.msg.leg.c, .int .u16 r.msg.leg.f, .int .u32 r.msg.leg.x, .int .i64 r.msg.value, .int .u8 r.msg.status, .int .u32 r.msg.nonce, .int .i64 r.msg.amount, .int .i64 r.msg.code] := E.d 7 _ 21 rfl rfl rfl
         exact res_ok (v := .agg #[.int .u8 r.kind, .int .u8 0, .int .u8 0, .int .u64 0, .int .u8 0, .string ByteArray.empty, .slice none 0 0, .int .i64 0, .slice none 0 0, .int .i64 0, .int .i64 0, .int .u8 r.frm, .int .u64 r.number, .int .u8 r.msg.kind, .int .u8 r.msg.tick.c, .int .u64 r.msg.tick.r, .int .u8 r.msg.at_, .int .u8 r.msg.leg.c, .int .u16 r.msg.leg.f, .int .u32 r.msg.leg.x, .int .i64 r.msg.value, .int .u8 r.msg.status, .int .u32 r.msg.nonce, .int .i64 r.msg.amount, .int .i64 r.msg.code]) (by simp [go_sem, execOp, Instr.build, Instr.fill, E.c, E.f, e15, e17, e19, e21] <;> rfl) (goes_still rfl rfl hM)
        ·
         refine op2 (a := 0) rfl fun e w ρ (hM : Mem _ w) E => ?_
         have e2 := E.o 2 _ rfl g2_5
         have e22 := E.d 8 _ 22 rfl rfl rfl
         obtain ⟨w', hr, hm⟩ := Mem.store (P := Try.prog) hM 0 rfl 44 0 (.agg #[.int .u8 r.kind, .int .u8 0, .int .u8 0, .int .u64 0, .int .u8 0, .string ByteArray.empty, .slice none 0 0, .int .i64 0, .slice none 0 0, .int .i64 0, .int .i64 0, .int .u8 r.frm, .int .u64 r.number, .int .u8 r.msg.kind, .int .u8 r.msg.tick.c, .int .u64 r.msg.tick.r, .int .u8 r.msg.at_, .int .u8 r.msg.leg.c, .int .u16 r.msg.leg.f, .int .u32 r.msg.leg.x, .int .i64 r.msg.value, .int .u8 r.msg.status, .int .u32 r.msg.nonce, .int .i64 r.msg.amount, .int .i64 r.msg.code]) [.int .u8 r.kind, .int .u8 0, .int .u8 0, .int .u64 0, .int .u8 0, .string ByteArray.empty, .slice none 0 0, .int .i64 0, .slice none 0 0, .int .i64 0, .int .i64 0, .int .u8 r.frm, .int .u64 r.number, .int .u8 r.msg.kind, .int .u8 r.msg.tick.c, .int .u64 r.msg.tick.r, .int .u8 r.msg.at_, .int .u8 r.msg.leg.c, .int .u16 r.msg.leg.f, .int .u32 r.msg.leg.x, .int .i64 r.msg.value, .int .u8 r.msg.status, .int .u32 r.msg.nonce, .int .i64 r.msg.amount, .int .i64 r.msg.code] rfl (by kernel_rfl) (Nat.le_of_ble_eq_true rfl) (by rfl)
         exact res_st (x_store rfl (e2) (e22) hr) (goes_tick rfl (0, undef) rfl hm)
       ·
        intro e a6 w6 hz6 hd hG hO hM
        have hd6 := hd.trans hd5
        have g1_6 := (hO 1 rfl).trans g1_5
        have g2_6 := (hO 2 rfl).trans g2_5
        have hM6 : Mem (boxC b1_1 #[.int .u8 r.kind, .int .u8 0, .int .u8 0, .int .u64 0, .int .u8 0, .string ByteArray.empty, .slice none 0 0, .int .i64 0, .slice none 0 0, .int .i64 0, .int .i64 0, .int .u8 r.frm, .int .u64 r.number, .int .u8 r.msg.kind, .int .u8 r.msg.tick.c, .int .u64 r.msg.tick.r, .int .u8 r.msg.at_, .int .u8 r.msg.leg.c, .int .u16 r.msg.leg.f, .int .u32 r.msg.leg.x, .int .i64 r.msg.value, .int .u8 r.msg.status, .int .u32 r.msg.nonce, .int .i64 r.msg.amount, .int .i64 r.msg.code] :: boxC b1_0 (recCells r (.slice al r.cmd.legs.length cl) (.slice at1 r.cmd.taxes.length ct)) :: R) w6 := hM
        clear hM hG hO hd
        clear hz5 hd5 hM5 g1_5 g2_5 g12_5
        refine then_n ?_
        refine wp_ret ?_
        refine blk_r ?_
        refine then_r ?_
        refine ret_c Try.results21 hd6 g2_6 (by kernel_rfl) (load_part (hM6.box 0 rfl) [.int .u8 r.kind, .int .u8 0, .int .u8 0, .int .u64 0, .int .u8 0, .string ByteArray.empty, .slice none 0 0, .int .i64 0, .slice none 0 0, .int .i64 0, .int .i64 0, .int .u8 r.frm, .int .u64 r.number, .int .u8 r.msg.kind, .int .u8 r.msg.tick.c, .int .u64 r.msg.tick.r, .int .u8 r.msg.at_, .int .u8 r.msg.leg.c, .int .u16 r.msg.leg.f, .int .u32 r.msg.leg.x, .int .i64 r.msg.value, .int .u8 r.msg.status, .int .u32 r.msg.nonce, .int .i64 r.msg.amount, .int .i64 r.msg.code] rfl (Nat.le_of_ble_eq_true rfl) rfl) ?_
        exact ⟨by have e1 : cutV r = _ := (if_neg hc1).trans (if_pos hc2); rw [e1, if_neg hc1, if_neg hc1]; rfl, hM6.tail.tail⟩
      ·
       refine cond_f (g12_5.trans (by rw [decide_eq_false hc2])) ?_
       refine wp_skip ?_
       refine blk_n ?_
       refine then_n ?_
       refine wp_seq ?_
       refine region_seq 30 (fun zz e => (#[.pointer (some ⟨b1_0, 0, none⟩), .int .u8 r.kind, .pointer (some ⟨b1_0, 11, none⟩), .int .u8 r.frm, .pointer (some ⟨b1_0, 12, none⟩), .int .u64 r.number, .agg #[.int .u8 r.kind, .int .u8 0, .int .u8 0, .int .u64 0, .int .u8 0, .string ByteArray.empty, .slice none 0 0, .int .i64 0, .slice none 0 0, .int .i64 0, .int .i64 0, .int .u8 r.frm, .int .u64 r.number, .int .u8 0, .int .u8 0, .int .u64 0, .int .u8 0, .int .u8 0, .int .u16 0, .int .u32 0, .int .i64 0, .int .u8 0, .int .u32 0, .int .i64 0, .int .i64 0], undef] : Array Value).getD zz undef) (fun k e w => Mem (List.getD [boxC b1_1 #[.int .u8 0, .int .u8 0, .int .u8 0, .int .u64 0, .int .u8 0, .string ByteArray.empty, .slice none 0 0, .int .i64 0, .slice none 0 0, .int .i64 0, .int .i64 0, .int .u8 0, .int .u64 0, .int .u8 0, .int .u8 0, .int .u64 0, .int .u8 0, .int .u8 0, .int .u16 0, .int .u32 0, .int .i64 0, .int .u8 0, .int .u32 0, .int .i64 0, .int .i64 0] :: boxC b1_0 (recCells r (.slice al r.cmd.legs.length cl) (.slice at1 r.cmd.taxes.length ct)) :: R, boxC b1_1 #[.int .u8 r.kind, .int .u8 0, .int .u8 0, .int .u64 0, .int .u8 0, .string ByteArray.empty, .slice none 0 0, .int .i64 0, .slice none 0 0, .int .i64 0, .int .i64 0, .int .u8 r.frm, .int .u64 r.number, .int .u8 0, .int .u8 0, .int .u64 0, .int .u8 0, .int .u8 0, .int .u16 0, .int .u32 0, .int .i64 0, .int .u8 0, .int .u32 0, .int .i64 0, .int .i64 0] :: boxC b1_0 (recCells r (.slice al r.cmd.legs.length cl) (.slice at1 r.cmd.taxes.length ct)) :: R] k []) w) (fun _ => (0, undef)) [7] [0, 0, 0, 0, 0, 0, 0, 0] (fun _ _ => false) hz5 (by kernel_rfl) (by kernel_rfl) (by kernel_rfl) ?_ (show Mem _ _ from hM5) ?_ ?_
       · exact ⟨fun _ _ _ => rfl, fun _ _ _ => rfl, fun _ _ _ => rfl, fun _ _ _ => rfl, fun _ _ _ => rfl, fun _ _ _ => rfl, fun _ _ _ => rfl, fun _ _ _ => rfl, trivial⟩
       ·
        refine ⟨?_, ?_, ?_, ?_, ?_, ?_, ?_, ?_, trivial⟩
        · exact op2 (a := 0) rfl fun e w ρ (hM : Mem _ w) E => res_ok (x_fieldAddr (off := 0) rfl (E.o 1 _ rfl g1_5) (by kernel_rfl) rfl) (goes_still rfl rfl hM)
        · exact op2 (a := 0) rfl fun e w ρ (hM : Mem _ w) E => res_ok (x_load rfl (E.d 0 _ 23 rfl rfl rfl) (by kernel_rfl) ((hM.box 1 rfl).cell 0 rfl)) (goes_still rfl rfl hM)
        · exact op2 (a := 0) rfl fun e w ρ (hM : Mem _ w) E => res_ok (x_fieldAddr (off := 11) rfl (E.o 1 _ rfl g1_5) (by kernel_rfl) rfl) (goes_still rfl rfl hM)
        · exact op2 (a := 0) rfl fun e w ρ (hM : Mem _ w) E => res_ok (x_load rfl (E.d 2 _ 25 rfl rfl rfl) (by kernel_rfl) ((hM.box 1 rfl).cell 11 rfl)) (goes_still rfl rfl hM)
        · exact op2 (a := 0) rfl fun e w ρ (hM : Mem _ w) E => res_ok (x_fieldAddr (off := 12) rfl (E.o 1 _ rfl g1_5) (by kernel_rfl) rfl) (goes_still rfl rfl hM)
        · exact op2 (a := 0) rfl fun e w ρ (hM : Mem _ w) E => res_ok (x_load rfl (E.d 4 _ 27 rfl rfl rfl) (by kernel_rfl) ((hM.box 1 rfl).cell 12 rfl)) (goes_still rfl rfl hM)
        ·
         refine op2 (a := 0) rfl fun e w ρ (hM : Mem _ w) E => ?_
         have e24 : ρ (.tmp 24) = .int .u8 r.kind := E.d 1 _ 24 rfl rfl rfl
         have e26 : ρ (.tmp 26) = .int .u8 r.frm := E.d 3 _ 26 rfl rfl rfl
         have e28 : ρ (.tmp 28) = .int .u64 r.number := E.d 5 _ 28 rfl rfl rfl
         exact res_ok (v := .agg #[.int .u8 r.kind, .int .u8 0, .int .u8 0, .int .u64 0, .int .u8 0, .string ByteArray.empty, .slice none 0 0, .int .i64 0, .slice none 0 0, .int .i64 0, .int .i64 0, .int .u8 r.frm, .int .u64 r.number, .int .u8 0, .int .u8 0, .int .u64 0, .int .u8 0, .int .u8 0, .int .u16 0, .int .u32 0, .int .i64 0, .int .u8 0, .int .u32 0, .int .i64 0, .int .i64 0]) (by simp [go_sem, execOp, Instr.build, Instr.fill, E.c, E.f, e24, e26, e28] <;> rfl) (goes_still rfl rfl hM)
        ·
         refine op2 (a := 0) rfl fun e w ρ (hM : Mem _ w) E => ?_
         have e2 := E.o 2 _ rfl g2_5
         have e29 := E.d 6 _ 29 rfl rfl rfl
         obtain ⟨w', hr, hm⟩ := Mem.store (P := Try.prog) hM 0 rfl 44 0 (.agg #[.int .u8 r.kind, .int .u8 0, .int .u8 0, .int .u64 0, .int .u8 0, .string ByteArray.empty, .slice none 0 0, .int .i64 0, .slice none 0 0, .int .i64 0, .int .i64 0, .int .u8 r.frm, .int .u64 r.number, .int .u8 0, .int .u8 0, .int .u64 0, .int .u8 0, .int .u8 0, .int .u16 0, .int .u32 0, .int .i64 0, .int .u8 0, .int .u32 0, .int .i64 0, .int .i64 0]) [.int .u8 r.kind, .int .u8 0, .int .u8 0, .int .u64 0, .int .u8 0, .string ByteArray.empty, .slice none 0 0, .int .i64 0, .slice none 0 0, .int .i64 0, .int .i64 0, .int .u8 r.frm, .int .u64 r.number, .int .u8 0, .int .u8 0, .int .u64 0, .int .u8 0, .int .u8 0, .int .u16 0, .int .u32 0, .int .i64 0, .int .u8 0, .int .u32 0, .int .i64 0, .int .i64 0] rfl (by kernel_rfl) (Nat.le_of_ble_eq_true rfl) (by rfl)
         exact res_st (x_store rfl (e2) (e29) hr) (goes_tick rfl (0, undef) rfl hm)
       ·
        intro e a7 w7 hz7 hd hG hO hM
        have hd7 := hd.trans hd5
        have g2_7 := (hO 2 rfl).trans g2_5
        have hM7 : Mem (boxC b1_1 #[.int .u8 r.kind, .int .u8 0, .int .u8 0, .int .u64 0, .int .u8 0, .string ByteArray.empty, .slice none 0 0, .int .i64 0, .slice none 0 0, .int .i64 0, .int .i64 0, .int .u8 r.frm, .int .u64 r.number, .int .u8 0, .int .u8 0, .int .u64 0, .int .u8 0, .int .u8 0, .int .u16 0, .int .u32 0, .int .i64 0, .int .u8 0, .int .u32 0, .int .i64 0, .int .i64 0] :: boxC b1_0 (recCells r (.slice al r.cmd.legs.length cl) (.slice at1 r.cmd.taxes.length ct)) :: R) w7 := hM
        clear hM hG hO hd
        clear hz5 hd5 hM5 g1_5 g2_5 g12_5
        refine then_n ?_
        refine wp_ret ?_
        refine ret_c Try.results21 hd7 g2_7 (by kernel_rfl) (load_part (hM7.box 0 rfl) [.int .u8 r.kind, .int .u8 0, .int .u8 0, .int .u64 0, .int .u8 0, .string ByteArray.empty, .slice none 0 0, .int .i64 0, .slice none 0 0, .int .i64 0, .int .i64 0, .int .u8 r.frm, .int .u64 r.number, .int .u8 0, .int .u8 0, .int .u64 0, .int .u8 0, .int .u8 0, .int .u16 0, .int .u32 0, .int .i64 0, .int .u8 0, .int .u32 0, .int .i64 0, .int .i64 0] rfl (Nat.le_of_ble_eq_true rfl) rfl) ?_
        exact ⟨by have e1 : cutV r = _ := (if_neg hc1).trans (if_neg hc2); rw [e1, if_neg hc1, if_neg hc1]; rfl, hM7.tail.tail⟩
end Go.Proofs.Ytfcjmpgbohgoeaa
