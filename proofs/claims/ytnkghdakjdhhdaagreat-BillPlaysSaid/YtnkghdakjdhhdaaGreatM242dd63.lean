/- Gr, Rf0, Rf1. -/
import Derived.Test.YtnkghdakjdhhdaaGreatM421640f
import Derived.Test.YtnkghdakjdhhdaaGreatSxE
import Derived.Test.YtnkghdakjdhhdaaGreatM3c481e6
import Derived.Test.YtnkghdakjdhhdaaGreatM911b15a
set_option maxRecDepth 100000
set_option linter.unusedVariables false
set_option linter.unusedSimpArgs false
set_option linter.unusedSectionVars false
section
namespace Go.Proofs.YtnkghdakjdhhdaaGreat
open Go.RowKit Go.Lib Go.Tk Go.Shelf Go.Vc Go.Sx
def grX (x : Act15) : Bool := decide ((20 : Int) < (x.s.legs.length : Int)) || (decide ((20 : Int) < (x.s.taxes.length : Int)) || decide ((200 : Int) < (x.s.name.size : Int)))
def grB (acts : List Act15) (m : Nat) : Bool := decide ((100 : Int) < (acts.length : Int)) || (decide ((100 : Int) < (m : Int)) || acts.any grX)
theorem grB_no {acts : List Act15} {m : Nat} (h : grB acts m = false) : acts.length ≤ 100 ∧ m ≤ 100 ∧ ∀ x ∈ acts, x.s.legs.length ≤ 20 ∧ x.s.taxes.length ≤ 20 := by
  unfold grB at h
  rw [Bool.or_eq_false_iff, Bool.or_eq_false_iff] at h
  refine ⟨by have := of_decide_eq_false h.1; omega, by have := of_decide_eq_false h.2.1; omega, fun x hx => ?_⟩
  have := List.any_eq_false.1 h.2.2 x hx
  unfold grX at this
  simp only [Bool.or_eq_true, decide_eq_true_eq, not_or] at this
  omega
def Great18F : Nat := 37
theorem great18_w (F : CF) {a b : Option Addr} {cap m cap2 : Nat} {acts : List Act15} (hR : ∀ b v, Rd (F b v) a (cellsL act15C acts)) (hl : acts.length ≤ 9223372036854775807) (hm : m ≤ 9223372036854775807) (hf : ∀ x ∈ acts, x.s.legs.length ≤ 9223372036854775807 ∧ x.s.taxes.length ≤ 9223372036854775807 ∧ x.s.name.size ≤ 9223372036854775807) :
    CallOK Tryz.prog Great18F [.val (.slice a acts.length cap), .val (.slice b m cap2)] [((0, 9), .fam F)] [] (.val (.bool (grB acts m))) [] := by
  rcases Bool.eq_false_or_eq_true (decide ((100 : Int) < (acts.length : Int))) with g | g
  · rw [show grB acts m = true by unfold grB; rw [g]; rfl]
    exact callOK_run 400 [hB 1 2 _ _ g] (by kernel_rfl) (by kernel_rfl)
  rcases Bool.eq_false_or_eq_true (decide ((100 : Int) < (m : Int))) with g' | g'
  · rw [show grB acts m = true by unfold grB; rw [g, g']; rfl]
    exact callOK_run 400 [hB 1 2 _ _ g, hB 1 6 _ _ g'] (by kernel_rfl) (by kernel_rfl)
  have hl100 : acts.length ≤ 100 := by have := of_decide_eq_false g; omega
  refine callOK_intro (by kernel_rfl) fun eb R => ?_
  refine go_loop (X := { i : Nat // i ≤ acts.length ∧ ∀ j, j < i → grX (acts.getD j act15Z) = false }) 0 [] (fun x => ([(0, .val (.slice a acts.length cap)), (5, .val (.int .i64 (x.1 : Int)))], [((0, 9), .fam F)])) (fun x => acts.length - x.1) ⟨0, Nat.zero_le _, fun j hj => absurd hj (Nat.not_lt_zero _)⟩ calNone false 400 [hB 1 2 _ _ g, hB 1 6 _ _ g'] calNone_ok (by kernel_rfl) ?_
  rintro ⟨i, hi, hd⟩ J hJ
  by_cases h : i < acts.length
  · have hin : acts.getD i act15Z ∈ acts := List.mem_of_getElem? (getD_some h act15Z)
    obtain ⟨b1, b2, b3⟩ := hf _ hin
    have q0 : decide ((i : Int) < (acts.length : Int)) = true := decide_eq_true (by omega)
    have q1 := idx_openG (P := Tryz.prog) (t := AT15) (e := 71) (size := 46) (j := 9) (k := .i64) (cap := cap) (n := acts.length) Tryz.underlying22 (by kernel_rfl) (acts15_len acts) hR h
    have hpos : 0 < (cellsL act15C acts).length := by rw [acts15_len]; omega
    have nth := act15_nth h
    have q2 := load_openG2 (P := Tryz.prog) (t := 61) (k := i * 46) (j := 9) (u := .val (.slice (acts.getD i act15Z).A.la (acts.getD i act15Z).s.legs.length (acts.getD i act15Z).A.lc)) 1 1 (by kernel_rfl) hR nth hpos
    have q3 := load_openG2 (P := Tryz.prog) (t := 62) (k := i * 46) (j := 9) (u := .val (.slice (acts.getD i act15Z).A.ta (acts.getD i act15Z).s.taxes.length (acts.getD i act15Z).A.tc)) 1 3 (by kernel_rfl) hR nth hpos
    have q4 := load_openG2 (P := Tryz.prog) (t := 9) (k := i * 46) (j := 9) (u := .val (.string (acts.getD i act15Z).s.name)) 1 0 (by kernel_rfl) hR nth hpos
    have q9 : IntKind.i64.wrap ((i : Int) + 1) = ((i + 1 : Nat) : Int) := by rw [wr_i64 (by omega)]; omega
    have bad : grX (acts.getD i act15Z) = true → grB acts m = true := fun e => by
      unfold grB
      rw [List.any_eq_true.2 ⟨_, hin, e⟩, Bool.or_true, Bool.or_true]
    have good : grX (acts.getD i act15Z) = false → ∀ j, j < i + 1 → grX (acts.getD j act15Z) = false := fun e j hj => by
      by_cases q : j = i
      · subst q; exact e
      · exact hd j (by omega)
    generalize hx : acts.getD i act15Z = x at *
    rcases Bool.eq_false_or_eq_true (decide ((20 : Int) < (x.s.legs.length : Int))) with g1 | g1
    · rw [bad (by unfold grX; rw [g1]; rfl)]
      exact leaf_end calNone false 400 [hB 4 3 _ _ q0, hG 6 2 q1, hG 6 5 q2, hB 6 7 _ _ g1] calNone_ok (by kernel_rfl)
    rcases Bool.eq_false_or_eq_true (decide ((20 : Int) < (x.s.taxes.length : Int))) with g2 | g2
    · rw [bad (by unfold grX; rw [g1, g2]; rfl)]
      exact leaf_end calNone false 400 [hB 4 3 _ _ q0, hG 6 2 q1, hG 6 5 q2, hB 6 7 _ _ g1, hG 6 11 q1, hG 6 14 q3, hB 6 16 _ _ g2] calNone_ok (by kernel_rfl)
    rcases Bool.eq_false_or_eq_true (decide ((200 : Int) < (x.s.name.size : Int))) with g3 | g3
    · rw [bad (by unfold grX; rw [g1, g2, g3]; rfl)]
      exact leaf_end calNone false 400 [hB 4 3 _ _ q0, hG 6 2 q1, hG 6 5 q2, hB 6 7 _ _ g1, hG 6 11 q1, hG 6 14 q3, hB 6 16 _ _ g2, hG 6 21 q1, hG 6 24 q4, hB 6 26 _ _ g3] calNone_ok (by kernel_rfl)
    have hJ' := hJ ⟨i + 1, h, good (by unfold grX; rw [g1, g2, g3]; rfl)⟩ (by show _ - (i + 1) < _ - i; omega)
    exact leaf_next calNone false 400 [hB 4 3 _ _ q0, hG 6 2 q1, hG 6 5 q2, hB 6 7 _ _ g1, hG 6 11 q1, hG 6 14 q3, hB 6 16 _ _ g2, hG 6 21 q1, hG 6 24 q4, hB 6 26 _ _ g3, hI 5 1 IntKind.i64 _ _ q9] calNone_ok hJ' (by kernel_rfl)
  · have q0 : decide ((i : Int) < (acts.length : Int)) = false := decide_eq_false (by omega)
    have e : grB acts m = false := by
      unfold grB
      rw [g, g', Bool.false_or, Bool.false_or, List.any_eq_false]
      intro x hx
      obtain ⟨j, hj, rfl⟩ := List.getElem_of_mem hx
      have := hd j (by omega)
      rw [List.getD_eq_getElem?_getD, List.getElem?_eq_getElem hj] at this
      simpa using this
    rw [e]
    exact leaf_end calNone false 400 [hB 4 3 _ _ q0] calNone_ok (by kernel_rfl)
end Go.Proofs.YtnkghdakjdhhdaaGreat
end
section
namespace Go.Proofs.YtnkghdakjdhhdaaGreat
open Go.RowKit Go.Lib Go.Tk Go.Shelf Go.Vc Go.Sx
theorem getD_ix {l : List UInt8} {k : Nat} (h : k < l.length) : l.getD k 0 = l[k] := by
  rw [List.getD_eq_getElem?_getD, List.getElem?_eq_getElem h]; rfl
def isIx (t : TypeId) (o : Oper) : Bool := match o.op with
  | .index t' _ _ => Nat.beq t t'
  | _ => false
def ixXY (o : Oper) : List Operand := match o.op with
  | .index _ x y => [x, y]
  | _ => []
theorem x_ixs {P : Program} {ρ : Operand → Value} {o : Oper} {w : World} {t : Nat} {x y : Operand} {s : ByteArray} {k : IntKind} {i : Nat} (ho : o.op = .index t x y) (hx : ρ x = .string s) (hy : ρ y = .int k (i : Int)) (hT : P.underlying t = some .string) (hi : i < s.size) :
    (execOp ρ o).run P w = .ok (.value (.int .u8 ((s.data.toList.getD i 0).toNat : Int))) w := by
  have hg : s.data.toList.getD i 0 = s[i] := by
    have h' : i < s.data.toList.length := by simpa using hi
    rw [getD_ix h']; rfl
  unfold execOp; rw [ho]
  simp only [hx, hy]
  have h1 := run_index_string (P := P) w t s k (i : Int) hT
  rw [dif_pos ⟨by omega, by omega⟩] at h1
  rw [hg]
  simp [h1, go_sem, Result.andThen]
theorem idx_strG {P : Program} {t : TypeId} {s : ByteArray} {k : IntKind} {i : Nat} (hT : P.underlying t = some .string) (hi : i < s.size) :
    OpG P (isIx t) ixXY [.val (.string s), .val (.int k (i : Int))] [] [] (.val (.int .u8 ((s.data.toList.getD i 0).toNat : Int))) [] := by
  intro o ho
  unfold isIx at ho
  split at ho <;> try (cases ho; done)
  rename_i t' x y hop
  have e1 := Nat.eq_of_beq_eq_true ho
  subst e1
  have hx' : ixXY o = [x, y] := by unfold ixXY; rw [hop]
  rw [hx']
  refine ⟨fun z hz => by rw [hop]; simp [Op.operands]; simpa using hz, fun ε ρ R w hx hM => ?_⟩
  simp only [List.map_cons, List.map_nil, SV.dens, SV.den, List.cons.injEq, and_true] at hx
  exact res_ok (x_ixs hop hx.1 hx.2 hT hi) ⟨ε 1, rfl, by rw [eset_self]; exact hM⟩
def orB (b : Bool) (c : UInt8) (l : List UInt8) : Nat → Bool
  | 0 => b
  | k + 1 => orB b c l k || decide ((c.toNat : Int) = ((l.getD k 0).toNat : Int))
theorem nat8 (c d : UInt8) : decide ((c.toNat : Int) = (d.toNat : Int)) = (c == d) := by
  by_cases h : c = d
  · subst h; simp
  · have : ¬ ((c.toNat : Int) = (d.toNat : Int)) := fun e => h (UInt8.toNat_inj.1 (by omega))
    rw [decide_eq_false this]
    symm; simpa using h
theorem take_snoc' {l : List UInt8} {k : Nat} (h : k < l.length) : l.take (k + 1) = l.take k ++ [l.getD k 0] := by
  rw [List.take_succ_eq_append_getElem h, getD_ix h]
theorem orB_any (b : Bool) (c : UInt8) (l : List UInt8) : ∀ {k : Nat}, k ≤ l.length → orB b c l k = (b || (l.take k).contains c)
  | 0, _ => by simp [orB]
  | k + 1, h => by
    rw [take_snoc' h]
    show (orB b c l k || _) = _
    rw [orB_any b c l (by omega), nat8, List.contains_eq_any_beq, List.contains_eq_any_beq, List.any_append]
    simp [Bool.or_assoc]
theorem orB_all (c : UInt8) (l : List UInt8) : orB (upB c) c l l.length = letB l c := by
  rw [orB_any _ _ _ (Nat.le_refl _), List.take_length]; rfl
theorem all_snoc' {l : List UInt8} {k : Nat} (h : k < l.length) (p : UInt8 → Bool) : (l.take (k + 1)).all p = ((l.take k).all p && p (l.getD k 0)) := by
  rw [take_snoc' h, List.all_append]; simp
theorem all_no {l : List UInt8} {k : Nat} (h : k < l.length) (p : UInt8 → Bool) (hp : p (l.getD k 0) = false) : l.all p = false := by
  rw [← Bool.not_eq_true, List.all_eq_true]
  intro ha
  have := ha (l.getD k 0) (by rw [getD_ix h]; exact List.getElem_mem h)
  rw [hp] at this; cases this
def TextF : Nat := 160
def txSl (s also : ByteArray) (i : Nat) : Slots := [(0, .val (.string s)), (1, .val (.string also)), (5, .val (.int .i64 (i : Int)))]
def txSl2 (s also : ByteArray) (i : Nat) (b : Bool) (k : Nat) : Slots := [(0, .val (.string s)), (1, .val (.string also)), (5, .val (.int .i64 (i : Int))), (6, .val (.bool b)), (7, .val (.int .i64 (k : Int)))]
theorem text_in {eb : Env} {R : List Chunk} {s also : ByteArray} (hs : s.size ≤ 9223372036854775807) (ha : also.size ≤ 9223372036854775807) {J : Act → World → Prop} {i : Nat} (h : i < s.size) (hp : (s.data.toList.take i).all (letB also.data.toList) = true) {b0 : Bool} (hb : upB (s.data.toList.getD i 0) = b0)
    (hJ : letB also.data.toList (s.data.toList.getD i 0) = true → ∀ ε a' w, Rel (ntOf Tryz.prog TextF) 1 eb R ⟨txSl s also (i + 1), [], 2⟩ ε a' w → J a' w) :
    Go Tryz.prog TextF (.val (.bool (lettersB also.data.toList s.data.toList))) [] eb R .nrm (rgK Tryz.prog TextF 5 [J]) [(0, .val (.string s)), (1, .val (.string also)), (5, .val (.int .i64 (i : Int))), (6, .val (.bool b0))] [] := by
  have hsl : s.data.toList.length = s.size := by simp
  have hal : also.data.toList.length = also.size := by simp
  have hfin := orB_all (s.data.toList.getD i 0) also.data.toList
  rw [hb, hal] at hfin
  have hno := all_no (l := s.data.toList) (k := i) (by omega) (letB also.data.toList)
  have q1 := idx_strG (P := Tryz.prog) (t := 9) (s := s) (k := .i64) (i := i) Tryz.underlying9 h
  have z9 : IntKind.i64.wrap ((i : Int) + 1) = ((i + 1 : Nat) : Int) := by rw [wr_i64 (by omega)]; omega
  unfold lettersB
  generalize s.data.toList.getD i 0 = c at *
  clear hp hb
  refine go_loop (X := { k : Nat // k ≤ also.size }) 1 [J] (fun y => (txSl2 s also i (orB b0 c also.data.toList y.1) y.1, [])) (fun y => also.size - y.1) ⟨0, Nat.zero_le _⟩ calNone false 400 [] calNone_ok (by kernel_rfl) ?_
  rintro ⟨k, hk⟩ J2 hJ2
  by_cases h2 : k < also.size
  · have z0 : decide ((k : Int) < (also.size : Int)) = true := decide_eq_true (by omega)
    have q2 := idx_strG (P := Tryz.prog) (t := 9) (s := also) (k := .i64) (i := k) Tryz.underlying9 h2
    have z3 : IntKind.i64.wrap ((k : Int) + 1) = ((k + 1 : Nat) : Int) := by rw [wr_i64 (by omega)]; omega
    have hJ2' : ∀ ε a' w, Rel (ntOf Tryz.prog TextF) 1 eb R ⟨txSl2 s also i (orB b0 c also.data.toList k || decide ((c.toNat : Int) = ((also.data.toList.getD k 0).toNat : Int))) (k + 1), [], 2⟩ ε a' w → J2 a' w := hJ2 ⟨k + 1, h2⟩ (by show _ - (k + 1) < _ - k; omega)
    clear hJ2 hJ hno hfin
    show Go Tryz.prog TextF _ [] eb R .nrm (.code (lpB Tryz.prog TextF 1 [J]) :: .lp J2 :: lpK Tryz.prog TextF 1 [J]) (txSl2 s also i (orB b0 c also.data.toList k) k) []
    generalize orB b0 c also.data.toList k = b at *
    cases b
    · exact leaf_round (lpK Tryz.prog TextF 1 [J]) false 400 [hB 6 3 _ _ z0, hG 8 4 q1, hG 8 7 q2, hI 7 1 IntKind.i64 _ _ z3] hJ2' (by kernel_rfl)
    · exact leaf_round (lpK Tryz.prog TextF 1 [J]) false 400 [hB 6 3 _ _ z0, hI 7 1 IntKind.i64 _ _ z3] hJ2' (by kernel_rfl)
  · have he : k = also.size := by omega
    subst he
    have z0 : decide ((also.size : Int) < (also.size : Int)) = false := decide_eq_false (by omega)
    clear hJ2
    show Go Tryz.prog TextF _ [] eb R .nrm (.code (lpB Tryz.prog TextF 1 [J]) :: .lp J2 :: lpK Tryz.prog TextF 1 [J]) (txSl2 s also i (orB b0 c also.data.toList also.size) also.size) []
    rw [hfin]
    cases hc : letB also.data.toList c
    · rw [hno hc]
      clear hno hfin hJ
      exact leaf_end calNone false 400 [hB 6 3 _ _ z0] calNone_ok (by kernel_rfl)
    · have hJ' := hJ hc
      clear hno hfin hJ
      exact leaf_round (lpK Tryz.prog TextF 0 []) false 400 [hB 6 3 _ _ z0, hI 3 1 IntKind.i64 _ _ z9] hJ' (by kernel_rfl)
theorem text_w {s also : ByteArray} (hs : s.size ≤ 9223372036854775807) (ha : also.size ≤ 9223372036854775807) : CallOK Tryz.prog TextF [.val (.string s), .val (.string also)] [] [] (.val (.bool (lettersB also.data.toList s.data.toList))) [] := by
  refine callOK_intro (by kernel_rfl) fun eb R => ?_
  have hsl : s.data.toList.length = s.size := by simp
  refine go_loop (X := { i : Nat // i ≤ s.size ∧ (s.data.toList.take i).all (letB also.data.toList) = true }) 0 [] (fun y => (txSl s also y.1, [])) (fun y => s.size - y.1) ⟨0, Nat.zero_le _, by simp⟩ calNone false 400 [] calNone_ok (by kernel_rfl) ?_
  rintro ⟨i, hi, hp⟩ J hJ
  by_cases h : i < s.size
  · have z0 : decide ((i : Int) < (s.size : Int)) = true := decide_eq_true (by omega)
    have q1 := idx_strG (P := Tryz.prog) (t := 9) (s := s) (k := .i64) (i := i) Tryz.underlying9 h
    have fin := fun b0 hb => text_in (eb := eb) (R := R) hs ha (J := J) h hp (b0 := b0) hb (fun hl => hJ ⟨i + 1, h, by rw [all_snoc' (by omega), hp, hl]; rfl⟩ (by show _ - (i + 1) < _ - i; omega))
    clear hJ
    unfold upB at fin
    generalize s.data.toList.getD i 0 = c at *
    rcases Bool.eq_false_or_eq_true (decide (65 ≤ (c.toNat : Int))) with g1 | g1
    · rcases Bool.eq_false_or_eq_true (decide ((c.toNat : Int) ≤ 90)) with g2 | g2
      · have fin := fin true (by rw [g1, g2]; rfl)
        exact leaf_cut (rgK Tryz.prog TextF 5 [J]) _ _ calNone false 400 [hB 2 3 _ _ z0, hG 4 2 q1, hB 4 3 _ _ g1, hG 4 7 q1, hB 4 8 _ _ g2, .stop 5] calNone_ok (by kernel_rfl) fin
      · have fin := fin false (by rw [g1, g2]; rfl)
        exact leaf_cut (rgK Tryz.prog TextF 5 [J]) _ _ calNone false 400 [hB 2 3 _ _ z0, hG 4 2 q1, hB 4 3 _ _ g1, hG 4 7 q1, hB 4 8 _ _ g2, .stop 5] calNone_ok (by kernel_rfl) fin
    · have fin := fin false (by rw [g1]; rfl)
      exact leaf_cut (rgK Tryz.prog TextF 5 [J]) _ _ calNone false 400 [hB 2 3 _ _ z0, hG 4 2 q1, hB 4 3 _ _ g1, .stop 5] calNone_ok (by kernel_rfl) fin
  · have z0 : decide ((i : Int) < (s.size : Int)) = false := decide_eq_false (by omega)
    have he : lettersB also.data.toList s.data.toList = true := by
      rw [List.take_of_length_le (by omega)] at hp; exact hp
    rw [he]
    clear hJ
    exact leaf_end calNone false 400 [hB 2 3 _ _ z0] calNone_ok (by kernel_rfl)
end Go.Proofs.YtnkghdakjdhhdaaGreat
end
section
namespace Go.Proofs.YtnkghdakjdhhdaaGreat
open Go.RowKit Go.Lib Go.Tk Go.Shelf Go.Vc Go.Sx
def rtax0 : Tax := ⟨⟨#[]⟩, 0⟩
def RMayF : Nat := 102
def RSumF : Nat := 177
def AmountF : Nat := 161
def RPriceF : Nat := 162
theorem rmay_w (x : Int) : CallOK Tryz.prog RMayF [.val (.int .i64 x)] [] [] (.val (.bool (mayI x))) [] := callOK_pure fun ε w => (rmay_any x w).mono fun e w' ⟨h1, h2⟩ => ⟨h1, by subst h2; exact Below.refl _ _⟩
theorem rsum_open (F : CF) {a : Option Addr} {n c : Nat} {xs : List Int} (hR : ∀ b v, Rd (F b v) a (xs.map (.int .i64))) (hn : xs.length = n) (hm : n ≤ 9223372036854775807) : CallOK Tryz.prog RSumF [.val (.slice a n c)] [((0, 0), .fam F)] [] (.tup [.val (.int .i64 (sumFrom 0 xs).1), eN (sumFrom 0 xs).2]) [] := by
  subst hn
  intro ε R w hM
  have hM : Mem (F (ε 0 0).1 (ε 0 0).2 :: R) w := hM
  refine (rsum_any a c xs w ((hR _ _).row hM 0 rfl) hm).mono ?_
  rintro e w' ⟨rfl, hb⟩
  subst hb
  exact ⟨ε 1, rfl, by rw [eset_self]; exact hM⟩
theorem rsum_raw {n : Nat} {xs : List Int} {l : List Value} (hl : l = xs.map (.int .i64)) (hn : xs.length = n) (hm : n ≤ 9223372036854775807) : CallOK Tryz.prog RSumF [.raw 0 0] [((0, 0), i64V n l)] [] (.tup [.val (.int .i64 (sumFrom 0 xs).1), eN (sumFrom 0 xs).2]) [] := by
  subst hl
  exact callOK_row1 rfl rfl fun F a c hR ok => rsum_open F hR hn hm
theorem amount_w (x : Int) : CallOK Tryz.prog AmountF [.val (.int .i64 x)] [] [] (.val (.bool (amtB x))) [] := by
  have c1 := rmay_w x
  rcases amt_cases x with ⟨h1, h2⟩ | ⟨h1, h2, h3⟩ | ⟨h1, h2, h3⟩
  · have g1 : decide (0 ≤ x) = false := decide_eq_false (by omega)
    rw [h2]
    clear h1 h2
    exact callOK_run 400 [hB 1 1 _ _ g1] (by kernel_rfl) (by kernel_rfl)
  · have g1 : decide (0 ≤ x) = true := decide_eq_true h1
    rw [h3]
    rw [h2] at c1
    clear h1 h2 h3
    exact callOK_run 400 [hB 1 1 _ _ g1, hC 1 4 c1] (by kernel_rfl) (by kernel_rfl)
  · have g1 : decide (0 ≤ x) = true := decide_eq_true h1
    rw [h3]
    rw [h2] at c1
    clear h1 h2 h3
    exact callOK_run 400 [hB 1 1 _ _ g1, hC 1 4 c1] (by kernel_rfl) (by kernel_rfl)
def prV (s : SaleV) : Nat → List Value
  | 0 => [.int .i64 s.fare]
  | i + 1 => prV s i ++ [.int .i64 (s.taxes.getD i rtax0).amt]
theorem prV_eq (s : SaleV) : ∀ i ≤ s.taxes.length, prV s i = (s.fare :: (s.taxes.take i).map (·.amt)).map (.int .i64)
  | 0, _ => by simp [prV]
  | i + 1, h => by
    rw [List.take_succ_eq_append_getElem h, List.map_append, ← List.cons_append, List.map_append]
    unfold prV
    rw [prV_eq s i (by omega), List.getD_eq_getElem?_getD, List.getElem?_eq_getElem h]; rfl
theorem rprice_in (F : CF) {eb : Env} {R : List Chunk} {s : SaleV} {A : SaleA} (ht : ∀ b v, Rd (F b v) A.ta (cellsL encTax s.taxes)) (hn : s.taxes.length ≤ 4) :
    Go Tryz.prog RPriceF (.tup [.val (.int .i64 (sumFrom 0 (priceL s)).1), eN (sumFrom 0 (priceL s)).2]) ([((0, 9), .fam F)] ++ []) eb R .nrm (rgK Tryz.prog RPriceF 2 []) [(1, .ptr 1 0 0), (4, .raw 1 1)]
      ([((0, 9), .fam F), ((1, 0), .box none (salS s (.val (.slice A.la s.legs.length A.lc)) (.val (.slice A.ta s.taxes.length A.tc)))), ((1, 1), .row 2 1 1 (.deep [.val (.int .i64 s.fare)]) [])]) := by
  refine go_open (X := Unit) (fun _ => [((0, 9), .fam F), ((1, 0), .box none (salS s (.val (.slice A.la s.legs.length A.lc)) (.val (.slice A.ta s.taxes.length A.tc)))), ((1, 1), i64V 1 (prV s 0))]) (fun ε w hM => ⟨(), hM⟩) (fun _ => by kernel_rfl) ?_
  rintro -
  refine go_loop (X := { i : Nat // i ≤ s.taxes.length }) 0 [] (fun y => ([(1, .ptr 1 0 0), (4, .raw 1 1), (5, .val (.int .i64 (y.1 : Int)))], [((0, 9), .fam F), ((1, 0), .box none (salS s (.val (.slice A.la s.legs.length A.lc)) (.val (.slice A.ta s.taxes.length A.tc)))), ((1, 1), i64V (y.1 + 1) (prV s y.1))])) (fun y => s.taxes.length - y.1) ⟨0, Nat.zero_le _⟩ calNone false 400 [] calNone_ok (by kernel_rfl) ?_
  rintro ⟨i, hi⟩ J hJ
  by_cases h : i < s.taxes.length
  · have z0 : decide ((i : Int) < (s.taxes.length : Int)) = true := decide_eq_true (by omega)
    have q1 := idx_openG (P := Tryz.prog) (t := 62) (e := 189) (size := 2) (j := 9) (k := .i64) (cap := A.tc) (n := s.taxes.length) Tryz.underlying62 (by kernel_rfl) (cellsL_len encTax_len _) ht h
    have q2 := load_openG (P := Tryz.prog) (t := 2) (k := i * 2) (j := 9) (u := .val (.int .i64 (s.taxes.getD i rtax0).amt)) 1 (by kernel_rfl) ht (taxS_nth (getD_some h rtax0)) (by rw [cellsL_len encTax_len]; omega)
    have q3 : i + 1 + 1 ≤ 1073741824 := by omega
    have z9 : IntKind.i64.wrap ((i : Int) + 1) = ((i + 1 : Nat) : Int) := by rw [wr_i64 (by omega)]; omega
    have hJ' := hJ ⟨i + 1, h⟩ (by show _ - (i + 1) < _ - i; omega)
    clear hJ
    exact leaf_round (lpK Tryz.prog RPriceF 0 []) false 400 [hB 3 4 _ _ z0, hG 5 4 q1, hG 5 6 q2, .opt 5 8 (.le _ q3), hI 4 1 IntKind.i64 _ _ z9] hJ' (by kernel_rfl)
  · have z0 : decide ((i : Int) < (s.taxes.length : Int)) = false := decide_eq_false (by omega)
    have he : i = s.taxes.length := by omega
    subst he
    have c1 := rsum_raw (n := s.taxes.length + 1) (xs := priceL s) (l := prV s s.taxes.length) (by rw [prV_eq _ _ (Nat.le_refl _), List.take_length]; rfl) (by simp [priceL]) (by omega)
    clear hJ
    exact leaf_end calNone false 400 [hB 3 4 _ _ z0, hC 6 1 c1] calNone_ok (by kernel_rfl)
theorem rprice_w (F : CF) {s : SaleV} {A : SaleA} (ht : ∀ b v, Rd (F b v) A.ta (cellsL encTax s.taxes)) (hn : s.taxes.length ≤ 4) :
    CallOK Tryz.prog RPriceF [.agg (salS s (.val (.slice A.la s.legs.length A.lc)) (.val (.slice A.ta s.taxes.length A.tc)))] [((0, 9), .fam F)] [] (.tup [.val (.int .i64 (sumFrom 0 (priceL s)).1), eN (sumFrom 0 (priceL s)).2]) [] := by
  refine callOK_intro (by kernel_rfl) fun eb R => ?_
  have fin := rprice_in F (eb := eb) (R := R) ht hn
  exact leaf_cut (rgK Tryz.prog RPriceF 2 []) [(1, .ptr 1 0 0), (4, .raw 1 1)] ([((0, 9), .fam F), ((1, 0), .box none (salS s (.val (.slice A.la s.legs.length A.lc)) (.val (.slice A.ta s.taxes.length A.tc)))), ((1, 1), .row 2 1 1 (.deep [.val (.int .i64 s.fare)]) [])]) calNone false 400 [.stop 2] calNone_ok (by kernel_rfl) fin
end Go.Proofs.YtnkghdakjdhhdaaGreat
end
