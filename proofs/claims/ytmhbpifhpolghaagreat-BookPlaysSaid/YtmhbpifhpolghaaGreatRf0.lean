/- The reference (tarmacref09): a text's bytes; text, amount. -/
import Derived.Test.YtmhbpifhpolghaaGreatSxE
import Derived.Test.YtmhbpifhpolghaaGreatM4915a62
namespace Go.Proofs.YtmhbpifhpolghaaGreat
set_option maxRecDepth 100000
open Go.RowKit Go.Lib Go.Tk Go.Shelf Go.Vc Go.Sx
set_option linter.unusedVariables false
set_option linter.unusedSimpArgs false
theorem getD_ix {l : List UInt8} {k : Nat} (h : k < l.length) : l.getD k 0 = l[k] := by
  rw [List.getD_eq_getElem?_getD, List.getElem?_eq_getElem h]; rfl
def isIx (t : TypeId) (o : Oper) : Bool := match o.op with
  | .index t' _ _ => Nat.beq t t'
  | _ => false
def ixXY (o : Oper) : List Operand := match o.op with
  | .index _ x y => [x, y]
  | _ => []
theorem x_ixs {P : Program} {ρ : Operand → Value} {o : Oper} {w : World} {t : Nat} {x y : Operand} {s : ByteArray} {k : IntKind} {i : Nat} (ho : o.op = .index t x y) (hx : ρ x = .string s) (hy : ρ y = .int k (i : Int)) (hT : P.underlying t = some .string) (hi : i < s.size) :
    (execOp ρ o).run P w = .ok (.value (.int .u8 ((s.data.toList.getD i 0).toNat : Int))) w := by
  have hg : s.data.toList.getD i 0 = s[i] := by
    have h' : i < s.data.toList.length := by simpa using hi
    rw [getD_ix h']; rfl
  unfold execOp; rw [ho]
  simp only [hx, hy]
  have h1 := run_index_string (P := P) w t s k (i : Int) hT
  rw [dif_pos ⟨by omega, by omega⟩] at h1
  rw [hg]
  simp [h1, go_sem, Result.andThen]
theorem idx_strG {P : Program} {t : TypeId} {s : ByteArray} {k : IntKind} {i : Nat} (hT : P.underlying t = some .string) (hi : i < s.size) :
    OpG P (isIx t) ixXY [.val (.string s), .val (.int k (i : Int))] [] [] (.val (.int .u8 ((s.data.toList.getD i 0).toNat : Int))) [] := by
  intro o ho
  unfold isIx at ho
  split at ho <;> try (cases ho; done)
  rename_i t' x y hop
  have e1 := Nat.eq_of_beq_eq_true ho
  subst e1
  have hx' : ixXY o = [x, y] := by unfold ixXY; rw [hop]
  rw [hx']
  refine ⟨fun z hz => by rw [hop]; simp [Op.operands]; simpa using hz, fun ε ρ R w hx hM => ?_⟩
  simp only [List.map_cons, List.map_nil, SV.dens, SV.den, List.cons.injEq, and_true] at hx
  exact res_ok (x_ixs hop hx.1 hx.2 hT hi) ⟨ε 1, rfl, by rw [eset_self]; exact hM⟩
def orB (b : Bool) (c : UInt8) (l : List UInt8) : Nat → Bool
  | 0 => b
  | k + 1 => orB b c l k || decide ((c.toNat : Int) = ((l.getD k 0).toNat : Int))
theorem nat8 (c d : UInt8) : decide ((c.toNat : Int) = (d.toNat : Int)) = (c == d) := by
  by_cases h : c = d
  · subst h; simp
  · have : ¬ ((c.toNat : Int) = (d.toNat : Int)) := fun e => h (UInt8.toNat_inj.1 (by omega))
    rw [decide_eq_false this]
    symm; simpa using h
theorem take_snoc' {l : List UInt8} {k : Nat} (h : k < l.length) : l.take (k + 1) = l.take k ++ [l.getD k 0] := by
  rw [List.take_succ_eq_append_getElem h, getD_ix h]
theorem orB_any (b : Bool) (c : UInt8) (l : List UInt8) : ∀ {k : Nat}, k ≤ l.length → orB b c l k = (b || (l.take k).contains c)
  | 0, _ => by simp [orB]
  | k + 1, h => by
    rw [take_snoc' h]
    show (orB b c l k || _) = _
    rw [orB_any b c l (by omega), nat8, List.contains_eq_any_beq, List.contains_eq_any_beq, List.any_append]
    simp [Bool.or_assoc]
theorem orB_all (c : UInt8) (l : List UInt8) : orB (upB c) c l l.length = letB l c := by
  rw [orB_any _ _ _ (Nat.le_refl _), List.take_length]; rfl
theorem all_snoc' {l : List UInt8} {k : Nat} (h : k < l.length) (p : UInt8 → Bool) : (l.take (k + 1)).all p = ((l.take k).all p && p (l.getD k 0)) := by
  rw [take_snoc' h, List.all_append]; simp
theorem all_no {l : List UInt8} {k : Nat} (h : k < l.length) (p : UInt8 → Bool) (hp : p (l.getD k 0) = false) : l.all p = false := by
  rw [← Bool.not_eq_true, List.all_eq_true]
  intro ha
  have := ha (l.getD k 0) (by rw [getD_ix h]; exact List.getElem_mem h)
  rw [hp] at this; cases this
def TextF : Nat := 137
def txSl (s also : ByteArray) (i : Nat) : Slots := [(0, .val (.string s)), (1, .val (.string also)), (5, .val (.int .i64 (i : Int)))]
def txSl2 (s also : ByteArray) (i : Nat) (b : Bool) (k : Nat) : Slots := [(0, .val (.string s)), (1, .val (.string also)), (5, .val (.int .i64 (i : Int))), (6, .val (.bool b)), (7, .val (.int .i64 (k : Int)))]
theorem text_in {eb : Env} {R : List Chunk} {s also : ByteArray} (hs : s.size ≤ 9223372036854775807) (ha : also.size ≤ 9223372036854775807) {J : Act → World → Prop} {i : Nat} (h : i < s.size) (hp : (s.data.toList.take i).all (letB also.data.toList) = true) {b0 : Bool} (hb : upB (s.data.toList.getD i 0) = b0)
    (hJ : letB also.data.toList (s.data.toList.getD i 0) = true → ∀ ε a' w, Rel (ntOf Tryz.prog TextF) 1 eb R ⟨txSl s also (i + 1), [], 2⟩ ε a' w → J a' w) :
    Go Tryz.prog TextF (.val (.bool (lettersB also.data.toList s.data.toList))) [] eb R .nrm (rgK Tryz.prog TextF 5 [J]) [(0, .val (.string s)), (1, .val (.string also)), (5, .val (.int .i64 (i : Int))), (6, .val (.bool b0))] [] := by
  have hsl : s.data.toList.length = s.size := by simp
  have hal : also.data.toList.length = also.size := by simp
  have hfin := orB_all (s.data.toList.getD i 0) also.data.toList
  rw [hb, hal] at hfin
  have hno := all_no (l := s.data.toList) (k := i) (by omega) (letB also.data.toList)
  have q1 := idx_strG (P := Tryz.prog) (t := 9) (s := s) (k := .i64) (i := i) Tryz.underlying9 h
  have z9 : IntKind.i64.wrap ((i : Int) + 1) = ((i + 1 : Nat) : Int) := by rw [wr_i64 (by omega)]; omega
  unfold lettersB
  generalize s.data.toList.getD i 0 = c at *
  clear hp hb
  refine go_loop (X := { k : Nat // k ≤ also.size }) 1 [J] (fun y => (txSl2 s also i (orB b0 c also.data.toList y.1) y.1, [])) (fun y => also.size - y.1) ⟨0, Nat.zero_le _⟩ calNone false 400 [] calNone_ok (by kernel_rfl) ?_
  rintro ⟨k, hk⟩ J2 hJ2
  by_cases h2 : k < also.size
  · have z0 : decide ((k : Int) < (also.size : Int)) = true := decide_eq_true (by omega)
    have q2 := idx_strG (P := Tryz.prog) (t := 9) (s := also) (k := .i64) (i := k) Tryz.underlying9 h2
    have z3 : IntKind.i64.wrap ((k : Int) + 1) = ((k + 1 : Nat) : Int) := by rw [wr_i64 (by omega)]; omega
    have hJ2' : ∀ ε a' w, Rel (ntOf Tryz.prog TextF) 1 eb R ⟨txSl2 s also i (orB b0 c also.data.toList k || decide ((c.toNat : Int) = ((also.data.toList.getD k 0).toNat : Int))) (k + 1), [], 2⟩ ε a' w → J2 a' w := hJ2 ⟨k + 1, h2⟩ (by show _ - (k + 1) < _ - k; omega)
    clear hJ2 hJ hno hfin
    show Go Tryz.prog TextF _ [] eb R .nrm (.code (lpB Tryz.prog TextF 1 [J]) :: .lp J2 :: lpK Tryz.prog TextF 1 [J]) (txSl2 s also i (orB b0 c also.data.toList k) k) []
    generalize orB b0 c also.data.toList k = b at *
    cases b
    · exact leaf_round (lpK Tryz.prog TextF 1 [J]) false 400 [hB 6 3 _ _ z0, hG 8 4 q1, hG 8 7 q2, hI 7 1 IntKind.i64 _ _ z3] hJ2' (by kernel_rfl)
    · exact leaf_round (lpK Tryz.prog TextF 1 [J]) false 400 [hB 6 3 _ _ z0, hI 7 1 IntKind.i64 _ _ z3] hJ2' (by kernel_rfl)
  · have he : k = also.size := by omega
    subst he
    have z0 : decide ((also.size : Int) < (also.size : Int)) = false := decide_eq_false (by omega)
    clear hJ2
    show Go Tryz.prog TextF _ [] eb R .nrm (.code (lpB Tryz.prog TextF 1 [J]) :: .lp J2 :: lpK Tryz.prog TextF 1 [J]) (txSl2 s also i (orB b0 c also.data.toList also.size) also.size) []
    rw [hfin]
    cases hc : letB also.data.toList c
    · rw [hno hc]
      clear hno hfin hJ
      exact leaf_end calNone false 400 [hB 6 3 _ _ z0] calNone_ok (by kernel_rfl)
    · have hJ' := hJ hc
      clear hno hfin hJ
      exact leaf_round (lpK Tryz.prog TextF 0 []) false 400 [hB 6 3 _ _ z0, hI 3 1 IntKind.i64 _ _ z9] hJ' (by kernel_rfl)
theorem text_w {s also : ByteArray} (hs : s.size ≤ 9223372036854775807) (ha : also.size ≤ 9223372036854775807) : CallOK Tryz.prog TextF [.val (.string s), .val (.string also)] [] [] (.val (.bool (lettersB also.data.toList s.data.toList))) [] := by
  refine callOK_intro (by kernel_rfl) fun eb R => ?_
  have hsl : s.data.toList.length = s.size := by simp
  refine go_loop (X := { i : Nat // i ≤ s.size ∧ (s.data.toList.take i).all (letB also.data.toList) = true }) 0 [] (fun y => (txSl s also y.1, [])) (fun y => s.size - y.1) ⟨0, Nat.zero_le _, by simp⟩ calNone false 400 [] calNone_ok (by kernel_rfl) ?_
  rintro ⟨i, hi, hp⟩ J hJ
  by_cases h : i < s.size
  · have z0 : decide ((i : Int) < (s.size : Int)) = true := decide_eq_true (by omega)
    have q1 := idx_strG (P := Tryz.prog) (t := 9) (s := s) (k := .i64) (i := i) Tryz.underlying9 h
    have fin := fun b0 hb => text_in (eb := eb) (R := R) hs ha (J := J) h hp (b0 := b0) hb (fun hl => hJ ⟨i + 1, h, by rw [all_snoc' (by omega), hp, hl]; rfl⟩ (by show _ - (i + 1) < _ - i; omega))
    clear hJ
    unfold upB at fin
    generalize s.data.toList.getD i 0 = c at *
    rcases Bool.eq_false_or_eq_true (decide (65 ≤ (c.toNat : Int))) with g1 | g1
    · rcases Bool.eq_false_or_eq_true (decide ((c.toNat : Int) ≤ 90)) with g2 | g2
      · have fin := fin true (by rw [g1, g2]; rfl)
        exact leaf_cut (rgK Tryz.prog TextF 5 [J]) _ _ calNone false 400 [hB 2 3 _ _ z0, hG 4 2 q1, hB 4 3 _ _ g1, hG 4 7 q1, hB 4 8 _ _ g2, .stop 5] calNone_ok (by kernel_rfl) fin
      · have fin := fin false (by rw [g1, g2]; rfl)
        exact leaf_cut (rgK Tryz.prog TextF 5 [J]) _ _ calNone false 400 [hB 2 3 _ _ z0, hG 4 2 q1, hB 4 3 _ _ g1, hG 4 7 q1, hB 4 8 _ _ g2, .stop 5] calNone_ok (by kernel_rfl) fin
    · have fin := fin false (by rw [g1]; rfl)
      exact leaf_cut (rgK Tryz.prog TextF 5 [J]) _ _ calNone false 400 [hB 2 3 _ _ z0, hG 4 2 q1, hB 4 3 _ _ g1, .stop 5] calNone_ok (by kernel_rfl) fin
  · have z0 : decide ((i : Int) < (s.size : Int)) = false := decide_eq_false (by omega)
    have he : lettersB also.data.toList s.data.toList = true := by
      rw [List.take_of_length_le (by omega)] at hp; exact hp
    rw [he]
    clear hJ
    exact leaf_end calNone false 400 [hB 2 3 _ _ z0] calNone_ok (by kernel_rfl)
end Go.Proofs.YtmhbpifhpolghaaGreat
