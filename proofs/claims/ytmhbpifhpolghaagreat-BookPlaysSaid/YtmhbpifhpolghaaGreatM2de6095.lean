/- Pb3, Pb4, Pb5, Pb6. -/
import Derived.Test.YtmhbpifhpolghaaGreatMc1467d4
set_option maxRecDepth 100000
set_option linter.unusedVariables false
set_option linter.unusedSimpArgs false
set_option linter.unusedSectionVars false
section
namespace Go.Proofs.YtmhbpifhpolghaaGreat
open Go.RowKit Go.Lib Go.Tk Go.Shelf Go.Vc Go.Sx
def rtEq (a b : Tid) : Bool := decide (a.c = b.c) && (decide (a.r = b.r) && true)
theorem rtEq_iff (a b : Tid) : rtEq a b = true ↔ a = b := by
  obtain ⟨a1, a2⟩ := a
  obtain ⟨b1, b2⟩ := b
  unfold rtEq
  simp
def pdZ : DocV × DocA := (doc0, ⟨none, 0, none, 0, none, 0⟩)
def tIx (L : List (DocV × DocA)) (t : Tid) : Int := match L.findIdx? (fun p => rtEq p.1.t t) with
  | some i => (i : Int)
  | none => -1
theorem tIx_at {l : List (DocV × DocA)} {t : Tid} {i : Nat} (hi : i < l.length) (h : rtEq (l.getD i pdZ).1.t t = true) (hb : ∀ j, j < i → rtEq (l.getD j pdZ).1.t t = false) : tIx l t = (i : Int) := by
  have e : l.findIdx? (fun p => rtEq p.1.t t) = some i := by
    rw [List.findIdx?_eq_some_iff_getElem]
    refine ⟨hi, ?_, fun j hj => ?_⟩
    · rw [List.getD_eq_getElem?_getD, List.getElem?_eq_getElem hi] at h; exact h
    · have := hb j hj
      rw [List.getD_eq_getElem?_getD, List.getElem?_eq_getElem (by omega)] at this
      have h2 : rtEq l[j].1.t t = false := this
      rw [h2]; decide
  unfold tIx; rw [e]
theorem tIx_none {l : List (DocV × DocA)} {t : Tid} (hb : ∀ j, j < l.length → rtEq (l.getD j pdZ).1.t t = false) : tIx l t = -1 := by
  have e : l.findIdx? (fun p => rtEq p.1.t t) = none := by
    rw [List.findIdx?_eq_none_iff]
    intro x hx
    obtain ⟨j, hj, rfl⟩ := List.mem_iff_getElem.1 hx
    have := hb j hj
    rw [List.getD_eq_getElem?_getD, List.getElem?_eq_getElem hj] at this
    exact this
  unfold tIx; rw [e]
theorem tIx_cases (l : List (DocV × DocA)) (t : Tid) : (tIx l t = -1 ∧ ∀ p ∈ l, p.1.t ≠ t) ∨ ∃ (i : Nat) (p : DocV × DocA), tIx l t = (i : Int) ∧ l[i]? = some p ∧ p.1.t = t := by
  unfold tIx
  cases h : l.findIdx? (fun p => rtEq p.1.t t) with
  | none =>
    refine .inl ⟨rfl, fun p hp e => ?_⟩
    have := List.findIdx?_eq_none_iff.1 h p hp
    rw [(rtEq_iff _ _).2 e] at this
    cases this
  | some i =>
    obtain ⟨hi, h1, -⟩ := List.findIdx?_eq_some_iff_getElem.1 h
    exact .inr ⟨i, l[i], rfl, List.getElem?_eq_getElem hi, (rtEq_iff _ _).1 h1⟩
def RDocF : Nat := 15
def RStatusF : Nat := 56
def ROpenF : Nat := 59
def RCloneF : Nat := 10
theorem docSA_nth {l : List (DocV × DocA)} {i : Nat} (h : i < l.length) : ∀ (ε : Env) (q : Nat) (v : SV), (docSA (l.getD i pdZ).1 (l.getD i pdZ).2)[q]? = some v → (cellsL docL l)[i * 17 + q]? = some (v.den ε) :=
  cells_nth (enc := docL) (encS := fun x => docSA x.1 x.2) (fun _ _ => rfl) (fun _ => rfl) (getD_some h pdZ)
theorem rdoc_w (L : List (DocV × DocA)) (R : RefV) (t : Tid) (hn : L.length ≤ 1000000) : CallOK Tryz.prog RDocF [.ptr 0 0 0, .agg (tidS t)] (rfS (rdQ L) R 0) [] (.val (.int .i64 (tIx L t))) [] := by
  refine callOK_intro (by kernel_rfl) fun eb R0 => ?_
  have ql := q_len (P := Tryz.prog) (E := 42) (size := 17) (enc := docL) L
  refine go_loop (X := { i : Nat // i ≤ L.length ∧ ∀ j, j < i → rtEq (L.getD j pdZ).1.t t = false }) 0 [] (fun y => ([(0, .ptr 0 0 0), (3, .ptr 1 0 0), (5, .val (.int .i64 (y.1 : Int)))], rfS (rdQ L) R 0 ++ [((1, 0), .box none (tidS t))])) (fun y => L.length - y.1) ⟨0, Nat.zero_le _, fun j hj => by omega⟩ calNone false 400 [] calNone_ok (by kernel_rfl) ?_
  rintro ⟨i, hi, hp⟩ J hJ
  by_cases h : i < L.length
  · have z0 : decide ((i : Int) < (L.length : Int)) = true := decide_eq_true (by omega)
    have q1 := q_idx (P := Tryz.prog) (t := 63) (i := i) (k := .i64) (E := 42) (size := 17) (enc := docL) L (fun _ => rfl) (by decide) (by kernel_rfl) h
    have q2 := q_load (P := Tryz.prog) (t := 39) (b := i * 17) (j := 0) (cs := docSA (L.getD i pdZ).1 (L.getD i pdZ).2) (u := .agg (tidS (L.getD i pdZ).1.t)) (E := 42) (size := 17) (enc := docL) L (by kernel_rfl) (docSA_nth h)
    have z9 : IntKind.i64.wrap ((i : Int) + 1) = ((i + 1 : Nat) : Int) := by rw [wr_i64 (by omega)]; omega
    have at_ := tIx_at (t := t) h
    have hext : rtEq (L.getD i pdZ).1.t t = false → ∀ j, j < i + 1 → rtEq (L.getD j pdZ).1.t t = false := fun hg j hj => by
      rcases Nat.lt_or_ge j i with hj' | hj'
      · exact hp j hj'
      · have : j = i := by omega
        subst this; exact hg
    have hJ' : rtEq (L.getD i pdZ).1.t t = false → ∀ ε a' w, Rel (ntOf Tryz.prog RDocF) 1 eb R0 ⟨[(0, .ptr 0 0 0), (3, .ptr 1 0 0), (5, .val (.int .i64 ((i + 1 : Nat) : Int)))], rfS (rdQ L) R 0 ++ [((1, 0), .box none (tidS t))], 2⟩ ε a' w → J a' w := fun hg => hJ ⟨i + 1, h, hext hg⟩ (by show _ - (i + 1) < _ - i; omega)
    clear hJ hext
    rcases Bool.eq_false_or_eq_true (rtEq (L.getD i pdZ).1.t t) with e | e
    · rw [at_ e hp]
      unfold rtEq at e
      clear hJ' at_
      show Go Tryz.prog RDocF _ _ eb R0 .nrm _ [(0, .ptr 0 0 0), (3, .ptr 1 0 0), (5, .val (.int .i64 (i : Int)))] (rfS (rdQ L) R 0 ++ [((1, 0), .box none (tidS t))])
      clear hp
      generalize L.getD i pdZ = x at *
      exact leaf_end calNone false 400 [hG 2 5 ql, hB 2 6 _ _ z0, hG 4 5 q1, hG 4 7 q2, hB 4 9 _ _ e] calNone_ok (by kernel_rfl)
    · replace hJ' := hJ' e
      unfold rtEq at e
      clear at_
      show Go Tryz.prog RDocF _ _ eb R0 .nrm _ [(0, .ptr 0 0 0), (3, .ptr 1 0 0), (5, .val (.int .i64 (i : Int)))] (rfS (rdQ L) R 0 ++ [((1, 0), .box none (tidS t))])
      clear hp
      generalize L.getD i pdZ = x at *
      exact leaf_round (lpK Tryz.prog RDocF 0 []) false 400 [hG 2 5 ql, hB 2 6 _ _ z0, hG 4 5 q1, hG 4 7 q2, hB 4 9 _ _ e, hI 3 1 IntKind.i64 _ _ z9] hJ' (by kernel_rfl)
  · have z0 : decide ((i : Int) < (L.length : Int)) = false := decide_eq_false (by omega)
    have he : i = L.length := by omega
    have e1 := tIx_none (l := L) (t := t) (fun j hj => hp j (by omega))
    rw [e1]
    clear hJ e1
    subst he
    show Go Tryz.prog RDocF _ _ eb R0 .nrm _ [(0, .ptr 0 0 0), (3, .ptr 1 0 0), (5, .val (.int .i64 (L.length : Int)))] (rfS (rdQ L) R 0 ++ [((1, 0), .box none (tidS t))])
    clear hp
    exact leaf_end calNone false 400 [hG 2 5 ql, hB 2 6 _ _ z0] calNone_ok (by kernel_rfl)
def rstL (l : List (Kid × OwnV)) (t : Tid) : Nat → List Int
  | 0 => []
  | i + 1 => bif rtEq (l.getD i mine0).1.t t then rstL l t i ++ [(l.getD i mine0).2.k.s] else rstL l t i
theorem rstL_len (l : List (Kid × OwnV)) (t : Tid) : ∀ i, (rstL l t i).length ≤ i
  | 0 => Nat.le_refl _
  | i + 1 => by
    have := rstL_len l t i
    unfold rstL
    cases rtEq (l.getD i mine0).1.t t
    · show (rstL l t i).length ≤ _; omega
    · show (rstL l t i ++ [_]).length ≤ _; rw [List.length_append, List.length_singleton]; omega
def stRow (n : Nat) (cs : List Value) : SC := .row 49 1 n (.shal cs) []
theorem rstatus_w (D : CF) (R : RefV) (t : Tid) (hn : R.owns.length ≤ 1000000) : CallOK Tryz.prog RStatusF [.ptr 0 0 0, .agg (tidS t)] (rfS D R 0) [] (.raw 1 0) [((1, 0), stC (rstL R.owns t R.owns.length))] := by
  refine callOK_intro (by kernel_rfl) fun eb R0 => ?_
  have ql := q_len (P := Tryz.prog) (E := 71) (size := 13) (enc := mineC) R.owns
  refine go_loop (X := { i : Nat // i ≤ R.owns.length }) 0 [] (fun y => ([(0, .ptr 0 0 0), (3, .ptr 1 0 0), (5, .raw 1 5), (6, .val (.int .i64 (y.1 : Int)))], rfS D R 0 ++ [((1, 0), .box none (tidS t)), ((1, 5), stRow (rstL R.owns t y.1).length ((rstL R.owns t y.1).map (.int .u8)))])) (fun y => R.owns.length - y.1) ⟨0, Nat.zero_le _⟩ calNone false 400 [] calNone_ok (by kernel_rfl) ?_
  rintro ⟨i, hi⟩ J hJ
  by_cases h : i < R.owns.length
  · have z0 : decide ((i : Int) < (R.owns.length : Int)) = true := decide_eq_true (by omega)
    have q1 := q_idx (P := Tryz.prog) (t := 64) (i := i) (k := .i64) (E := 71) (size := 13) (enc := mineC) R.owns (fun _ => rfl) (by decide) (by kernel_rfl) h
    have q2 := q_load (P := Tryz.prog) (t := 39) (b := i * 13) (j := 0) (cs := mineS (R.owns.getD i mine0)) (u := .agg (tidS (R.owns.getD i mine0).1.t)) (E := 71) (size := 13) (enc := mineC) R.owns (by kernel_rfl) (mineS_nth h)
    have q3 := q_load (P := Tryz.prog) (t := 49) (b := i * 13) (j := 7) (cs := mineS (R.owns.getD i mine0)) (u := .val (.int .u8 (R.owns.getD i mine0).2.k.s)) (E := 71) (size := 13) (enc := mineC) R.owns (by kernel_rfl) (mineS_nth h)
    have z9 : IntKind.i64.wrap ((i : Int) + 1) = ((i + 1 : Nat) : Int) := by rw [wr_i64 (by omega)]; omega
    have hJ' := hJ ⟨i + 1, h⟩ (by show _ - (i + 1) < _ - i; omega)
    have hle := rstL_len R.owns t i
    have n1 : (rstL R.owns t i).length + 1 ≤ 1073741824 := by omega
    have es : rstL R.owns t (i + 1) = bif rtEq (R.owns.getD i mine0).1.t t then rstL R.owns t i ++ [(R.owns.getD i mine0).2.k.s] else rstL R.owns t i := rfl
    show Go Tryz.prog RStatusF _ _ eb R0 .nrm _ [(0, .ptr 0 0 0), (3, .ptr 1 0 0), (5, .raw 1 5), (6, .val (.int .i64 (i : Int)))] (rfS D R 0 ++ [((1, 0), .box none (tidS t)), ((1, 5), stRow (rstL R.owns t i).length ((rstL R.owns t i).map (.int .u8)))])
    have hJ' : ∀ ε a' w, Rel (ntOf Tryz.prog RStatusF) 1 eb R0 ⟨[(0, .ptr 0 0 0), (3, .ptr 1 0 0), (5, .raw 1 5), (6, .val (.int .i64 ((i + 1 : Nat) : Int)))], rfS D R 0 ++ [((1, 0), .box none (tidS t)), ((1, 5), stRow (rstL R.owns t (i + 1)).length ((rstL R.owns t (i + 1)).map (.int .u8)))], 2⟩ ε a' w → J a' w := hJ'
    rw [es] at hJ'
    clear hJ es
    generalize rstL R.owns t i = st at *
    generalize R.owns.getD i mine0 = x at *
    rcases Bool.eq_false_or_eq_true (rtEq x.1.t t) with e | e
    · rw [e] at hJ'
      unfold rtEq at e
      simp only [cond_true, List.length_append, List.length_singleton, List.map_append, List.map_cons, List.map_nil] at hJ'
      exact leaf_round (lpK Tryz.prog RStatusF 0 []) false 400 [hG 3 5 ql, hB 3 6 _ _ z0, hG 5 5 q1, hG 5 8 q2, hB 5 10 _ _ e, hG 6 6 q1, hG 6 10 q3, .opt 6 12 (.le _ n1), hI 4 1 IntKind.i64 _ _ z9] hJ' (by kernel_rfl)
    · rw [e] at hJ'
      unfold rtEq at e
      simp only [cond_false] at hJ'
      exact leaf_round (lpK Tryz.prog RStatusF 0 []) false 400 [hG 3 5 ql, hB 3 6 _ _ z0, hG 5 5 q1, hG 5 8 q2, hB 5 10 _ _ e, hI 4 1 IntKind.i64 _ _ z9] hJ' (by kernel_rfl)
  · have z0 : decide ((i : Int) < (R.owns.length : Int)) = false := decide_eq_false (by omega)
    have he : i = R.owns.length := by omega
    subst he
    clear hJ
    show Go Tryz.prog RStatusF _ _ eb R0 .nrm _ [(0, .ptr 0 0 0), (3, .ptr 1 0 0), (5, .raw 1 5), (6, .val (.int .i64 (R.owns.length : Int)))] (rfS D R 0 ++ [((1, 0), .box none (tidS t)), ((1, 5), stRow (rstL R.owns t R.owns.length).length ((rstL R.owns t R.owns.length).map (.int .u8)))])
    exact leaf_end calNone false 400 [hG 3 5 ql, hB 3 6 _ _ z0] calNone_ok (by kernel_rfl)
def rOpO (l : List (Kid × OwnV)) (c : Int) : Nat → Nat
  | 0 => 0
  | i + 1 => rOpO l c i + cntO c (l.getD i mine0).2
def rOpH (l : List (Kid × HeldV)) (c : Int) : Nat → Nat
  | 0 => 0
  | i + 1 => rOpH l c i + cntH c (l.getD i other0)
def rOpen (R : RefV) (c : Int) : Nat := rOpO R.owns c R.owns.length + rOpH R.helds c R.helds.length
theorem rOpO_le (l : List (Kid × OwnV)) (c : Int) : ∀ i, rOpO l c i ≤ i
  | 0 => Nat.le_refl _
  | i + 1 => by
    have := rOpO_le l c i
    show rOpO l c i + cntO c (l.getD i mine0).2 ≤ i + 1
    have : cntO c (l.getD i mine0).2 ≤ 1 := by unfold cntO; cases (_ && _) <;> decide
    omega
theorem rOpH_le (l : List (Kid × HeldV)) (c : Int) : ∀ i, rOpH l c i ≤ 2 * i
  | 0 => Nat.le_refl _
  | i + 1 => by
    have := rOpH_le l c i
    show rOpH l c i + cntH c (l.getD i other0) ≤ 2 * (i + 1)
    have : cntH c (l.getD i other0) ≤ 2 := by
      unfold cntH
      cases (decide ((l.getD i other0).1.t.c = c) && (l.getD i other0).2.wanted) <;> cases (decide ((l.getD i other0).1.t.c = c) && (l.getD i other0).2.billed) <;> decide
    omega
theorem ropen_h (D : CF) (R : RefV) (c : Int) (hn : R.owns.length ≤ 1000000) (hm : R.helds.length ≤ 1000000) {eb : Env} {R0 : List Chunk} :
    Go Tryz.prog ROpenF (.val (.int .i64 (rOpen R c : Int))) (rfS D R 0 ++ []) eb R0 .nrm (rgK Tryz.prog ROpenF 7 []) [(0, .ptr 0 0 0), (1, .val (.int .u8 c)), (5, .val (.int .i64 (rOpO R.owns c R.owns.length : Int)))] (rfS D R 0) := by
  have ql := q_len (P := Tryz.prog) (E := 124) (size := 13) (enc := otherC) R.helds
  have b0 := rOpO_le R.owns c R.owns.length
  unfold rOpen
  generalize rOpO R.owns c R.owns.length = m at *
  refine go_loop (X := { i : Nat // i ≤ R.helds.length }) 1 [] (fun y => ([(0, .ptr 0 0 0), (1, .val (.int .u8 c)), (5, .val (.int .i64 ((m + rOpH R.helds c y.1 : Nat) : Int))), (7, .val (.int .i64 (y.1 : Int)))], rfS D R 0)) (fun y => R.helds.length - y.1) ⟨0, Nat.zero_le _⟩ calNone false 400 [] calNone_ok (by kernel_rfl) ?_
  rintro ⟨i, hi⟩ J hJ
  by_cases h : i < R.helds.length
  · have z0 : decide ((i : Int) < (R.helds.length : Int)) = true := decide_eq_true (by omega)
    have hx := getD_some h other0
    have q1 := hidx R.helds h
    have q2 := hload R.helds hx (t := 5) (j := 0) (u := .val (.int .u8 (R.helds.getD i other0).1.t.c)) (by kernel_rfl)
    have q3 := hload R.helds hx (t := 4) (j := 11) (u := .val (.bool (R.helds.getD i other0).2.wanted)) (by kernel_rfl)
    have q4 := hload R.helds hx (t := 4) (j := 12) (u := .val (.bool (R.helds.getD i other0).2.billed)) (by kernel_rfl)
    have z9 : IntKind.i64.wrap ((i : Int) + 1) = ((i + 1 : Nat) : Int) := by rw [wr_i64 (by omega)]; omega
    have hle := rOpH_le R.helds c i
    have hJ' := hJ ⟨i + 1, h⟩ (by show _ - (i + 1) < _ - i; omega)
    have hJ' : ∀ ε a' w, Rel (ntOf Tryz.prog ROpenF) 1 eb R0 ⟨[(0, .ptr 0 0 0), (1, .val (.int .u8 c)), (5, .val (.int .i64 ((m + (rOpH R.helds c i + cntH c (R.helds.getD i other0)) : Nat) : Int))), (7, .val (.int .i64 ((i + 1 : Nat) : Int)))], rfS D R 0, 2⟩ ε a' w → J a' w := hJ'
    clear hJ hx
    show Go Tryz.prog ROpenF _ _ eb R0 .nrm _ [(0, .ptr 0 0 0), (1, .val (.int .u8 c)), (5, .val (.int .i64 ((m + rOpH R.helds c i : Nat) : Int))), (7, .val (.int .i64 (i : Int)))] (rfS D R 0)
    generalize rOpH R.helds c i = k at *
    generalize R.helds.getD i other0 = x at *
    unfold cntH at hJ'
    have w1 : IntKind.i64.wrap (((m + k : Nat) : Int) + 1) = ((m + k + 1 : Nat) : Int) := by rw [wr_i64 (by omega)]; omega
    have w2 : IntKind.i64.wrap (((m + k + 1 : Nat) : Int) + 1) = ((m + k + 2 : Nat) : Int) := by rw [wr_i64 (by omega)]; omega
    rcases Bool.eq_false_or_eq_true (!decide (x.1.t.c = c)) with e0 | e0
    · have e1 : decide (x.1.t.c = c) = false := by rw [← Bool.not_eq_true', e0]
      rw [e1] at hJ'
      simp only [Bool.false_and, cond_false, Nat.add_zero] at hJ'
      exact leaf_round (lpK Tryz.prog ROpenF 1 []) false 400 [hG 8 5 ql, hB 8 6 _ _ z0, hG 10 5 q1, hG 10 9 q2, hB 10 11 _ _ e0, hI 9 1 IntKind.i64 _ _ z9] hJ' (by kernel_rfl)
    · have e1 : decide (x.1.t.c = c) = true := by rw [← Bool.not_eq_false', e0]
      rw [e1] at hJ'
      rcases Bool.eq_false_or_eq_true x.2.wanted with g1 | g1 <;> rcases Bool.eq_false_or_eq_true x.2.billed with g2 | g2 <;> rw [g1, g2] at hJ'
      · have hJ' : ∀ ε a' w, Rel (ntOf Tryz.prog ROpenF) 1 eb R0 ⟨[(0, .ptr 0 0 0), (1, .val (.int .u8 c)), (5, .val (.int .i64 ((m + k + 2 : Nat) : Int))), (7, .val (.int .i64 ((i + 1 : Nat) : Int)))], rfS D R 0, 2⟩ ε a' w → J a' w := hJ'
        exact leaf_round (lpK Tryz.prog ROpenF 1 []) false 400 [hG 8 5 ql, hB 8 6 _ _ z0, hG 10 5 q1, hG 10 9 q2, hB 10 11 _ _ e0, hG 11 5 q1, hG 11 8 q3, hB 11 8 _ _ g1, hI 12 1 IntKind.i64 _ _ w1, hG 13 5 q1, hG 13 8 q4, hB 13 8 _ _ g2, hI 14 1 IntKind.i64 _ _ w2, hI 9 1 IntKind.i64 _ _ z9] hJ' (by kernel_rfl)
      · have hJ' : ∀ ε a' w, Rel (ntOf Tryz.prog ROpenF) 1 eb R0 ⟨[(0, .ptr 0 0 0), (1, .val (.int .u8 c)), (5, .val (.int .i64 ((m + k + 1 : Nat) : Int))), (7, .val (.int .i64 ((i + 1 : Nat) : Int)))], rfS D R 0, 2⟩ ε a' w → J a' w := hJ'
        exact leaf_round (lpK Tryz.prog ROpenF 1 []) false 400 [hG 8 5 ql, hB 8 6 _ _ z0, hG 10 5 q1, hG 10 9 q2, hB 10 11 _ _ e0, hG 11 5 q1, hG 11 8 q3, hB 11 8 _ _ g1, hI 12 1 IntKind.i64 _ _ w1, hG 13 5 q1, hG 13 8 q4, hB 13 8 _ _ g2, hI 9 1 IntKind.i64 _ _ z9] hJ' (by kernel_rfl)
      · have hJ' : ∀ ε a' w, Rel (ntOf Tryz.prog ROpenF) 1 eb R0 ⟨[(0, .ptr 0 0 0), (1, .val (.int .u8 c)), (5, .val (.int .i64 ((m + k + 1 : Nat) : Int))), (7, .val (.int .i64 ((i + 1 : Nat) : Int)))], rfS D R 0, 2⟩ ε a' w → J a' w := hJ'
        exact leaf_round (lpK Tryz.prog ROpenF 1 []) false 400 [hG 8 5 ql, hB 8 6 _ _ z0, hG 10 5 q1, hG 10 9 q2, hB 10 11 _ _ e0, hG 11 5 q1, hG 11 8 q3, hB 11 8 _ _ g1, hG 13 5 q1, hG 13 8 q4, hB 13 8 _ _ g2, hI 14 1 IntKind.i64 _ _ w1, hI 9 1 IntKind.i64 _ _ z9] hJ' (by kernel_rfl)
      · have hJ' : ∀ ε a' w, Rel (ntOf Tryz.prog ROpenF) 1 eb R0 ⟨[(0, .ptr 0 0 0), (1, .val (.int .u8 c)), (5, .val (.int .i64 ((m + k : Nat) : Int))), (7, .val (.int .i64 ((i + 1 : Nat) : Int)))], rfS D R 0, 2⟩ ε a' w → J a' w := hJ'
        exact leaf_round (lpK Tryz.prog ROpenF 1 []) false 400 [hG 8 5 ql, hB 8 6 _ _ z0, hG 10 5 q1, hG 10 9 q2, hB 10 11 _ _ e0, hG 11 5 q1, hG 11 8 q3, hB 11 8 _ _ g1, hG 13 5 q1, hG 13 8 q4, hB 13 8 _ _ g2, hI 9 1 IntKind.i64 _ _ z9] hJ' (by kernel_rfl)
  · have z0 : decide ((i : Int) < (R.helds.length : Int)) = false := decide_eq_false (by omega)
    have he : i = R.helds.length := by omega
    subst he
    clear hJ
    show Go Tryz.prog ROpenF _ _ eb R0 .nrm _ [(0, .ptr 0 0 0), (1, .val (.int .u8 c)), (5, .val (.int .i64 ((m + rOpH R.helds c R.helds.length : Nat) : Int))), (7, .val (.int .i64 (R.helds.length : Int)))] (rfS D R 0)
    exact leaf_end calNone false 400 [hG 8 5 ql, hB 8 6 _ _ z0] calNone_ok (by kernel_rfl)
theorem ropen_w (D : CF) (R : RefV) (c : Int) (hn : R.owns.length ≤ 1000000) (hm : R.helds.length ≤ 1000000) : CallOK Tryz.prog ROpenF [.ptr 0 0 0, .val (.int .u8 c)] (rfS D R 0) [] (.val (.int .i64 (rOpen R c : Int))) [] := by
  refine callOK_intro (by kernel_rfl) fun eb R0 => ?_
  have fin := ropen_h D R c hn hm (eb := eb) (R0 := R0)
  have ql := q_len (P := Tryz.prog) (E := 71) (size := 13) (enc := mineC) R.owns
  refine go_loop (X := { i : Nat // i ≤ R.owns.length }) 0 [] (fun y => ([(0, .ptr 0 0 0), (1, .val (.int .u8 c)), (5, .val (.int .i64 (rOpO R.owns c y.1 : Int))), (6, .val (.int .i64 (y.1 : Int)))], rfS D R 0)) (fun y => R.owns.length - y.1) ⟨0, Nat.zero_le _⟩ calNone false 400 [] calNone_ok (by kernel_rfl) ?_
  rintro ⟨i, hi⟩ J hJ
  by_cases h : i < R.owns.length
  · have z0 : decide ((i : Int) < (R.owns.length : Int)) = true := decide_eq_true (by omega)
    have hx := getD_some h mine0
    have q1 := oidx R.owns h
    have q2 := oload R.owns hx (t := 4) (j := 12) (u := .val (.bool (R.owns.getD i mine0).2.asked)) (by kernel_rfl)
    have q3 := oload R.owns hx (t := 4) (j := 9) (u := .val (.bool (R.owns.getD i mine0).2.away)) (by kernel_rfl)
    have q4 := oload R.owns hx (t := 5) (j := 10) (u := .val (.int .u8 (R.owns.getD i mine0).2.dst)) (by kernel_rfl)
    have z9 : IntKind.i64.wrap ((i : Int) + 1) = ((i + 1 : Nat) : Int) := by rw [wr_i64 (by omega)]; omega
    have hle := rOpO_le R.owns c i
    have hJ' : ∀ ε a' w, Rel (ntOf Tryz.prog ROpenF) 1 eb R0 ⟨[(0, .ptr 0 0 0), (1, .val (.int .u8 c)), (5, .val (.int .i64 ((rOpO R.owns c i + cntO c (R.owns.getD i mine0).2 : Nat) : Int))), (6, .val (.int .i64 ((i + 1 : Nat) : Int)))], rfS D R 0, 2⟩ ε a' w → J a' w := hJ ⟨i + 1, h⟩ (by show _ - (i + 1) < _ - i; omega)
    clear hJ hx fin
    show Go Tryz.prog ROpenF _ _ eb R0 .nrm _ [(0, .ptr 0 0 0), (1, .val (.int .u8 c)), (5, .val (.int .i64 (rOpO R.owns c i : Int))), (6, .val (.int .i64 (i : Int)))] (rfS D R 0)
    generalize rOpO R.owns c i = k at *
    generalize R.owns.getD i mine0 = x at *
    have w1 : IntKind.i64.wrap ((k : Int) + 1) = ((k + 1 : Nat) : Int) := by rw [wr_i64 (by omega)]; omega
    unfold cntO at hJ'
    rcases Bool.eq_false_or_eq_true x.2.asked with g1 | g1 <;> rcases Bool.eq_false_or_eq_true x.2.away with g2 | g2 <;> rcases Bool.eq_false_or_eq_true (decide (x.2.dst = c)) with g3 | g3 <;> rw [g1, g2, g3] at hJ' <;> simp only [Bool.and_true, Bool.and_false, Bool.false_and, Bool.true_and, cond_true, cond_false, Nat.add_zero] at hJ' <;> exact leaf_round (lpK Tryz.prog ROpenF 0 []) false 400 [hG 3 5 ql, hB 3 6 _ _ z0, hG 5 5 q1, hG 5 8 q2, hB 5 8 _ _ g1, hG 5 15 q1, hG 5 18 q3, hB 5 18 _ _ g2, hG 5 26 q1, hG 5 29 q4, hB 5 31 _ _ g3, hI 6 1 IntKind.i64 _ _ w1, hI 4 1 IntKind.i64 _ _ z9] hJ' (by kernel_rfl)
  · have z0 : decide ((i : Int) < (R.owns.length : Int)) = false := decide_eq_false (by omega)
    have he : i = R.owns.length := by omega
    subst he
    clear hJ
    show Go Tryz.prog ROpenF _ _ eb R0 .nrm _ [(0, .ptr 0 0 0), (1, .val (.int .u8 c)), (5, .val (.int .i64 (rOpO R.owns c R.owns.length : Int))), (6, .val (.int .i64 (R.owns.length : Int)))] (rfS D R 0)
    exact leaf_cut (rgK Tryz.prog ROpenF 7 []) _ _ calNone false 400 [hG 3 5 ql, hB 3 6 _ _ z0, .stop 7] calNone_ok (by kernel_rfl) fin
end Go.Proofs.YtmhbpifhpolghaaGreat
end
section
namespace Go.Sx
open Go.RowKit Go.Lib Go.Tk Go.Shelf Go.Vc
section
variable {P : Program} {E size : Nat} {α : Type} {enc : α → List Value}
theorem q_copy0 {t : TypeId} (l : List α) (hk : ∀ x, (enc x).length = size) (h1 : ∀ x, ∀ u ∈ enc x, u.oneCell' = true) (hT : P.underlying t = some (.slice E)) (hinf : infoB P E size = true) (hn : l.length ≤ 1073741824) :
    OpG P (isApp P t t) lenX [.val (.slice none 0 0), .any 0 0] [((0, 0), .fam (qF E size enc l))] [] (.raw 1 0) [((1, 0), .fam (qF E size enc l))] := by
  intro o ho
  obtain ⟨c, y, z, ho, hc, ha, hat, hx⟩ := isApp_of ho
  rw [hx]
  obtain ⟨ie, zv, hi', hz, hsz, hzs, h0, hb⟩ := infoB_of hinf
  refine ⟨fun q hq => by rw [ho]; simp [Op.operands, Call.operands, hc, ha]; simpa using hq, fun ε ρ R w hx hM => ?_⟩
  simp only [List.map_cons, List.map_nil, SV.dens, SV.den, List.cons.injEq, and_true] at hx
  obtain ⟨hx, hy⟩ := hx
  have hM : Mem (qcC E size (ε 0 0).2 l.length (cellsL enc l) :: R) w := hM
  have hq := Mem.qs hM 0 rfl
  have hS := hq.src (P := P) (i := 0) (Nat.zero_le _) (cellsL_one h1) hT
  have e0 : winV (ε 0 0).2 size 0 (l.length - 0) = (ε 0 0).2 := by
    obtain ⟨a, cp, hv, -⟩ := hq.isL
    rw [hv]; unfold winV
    cases a with
    | none => simp
    | some ad =>
      have : ad.add 0 = ad := by simp [Addr.add]
      simp [this]
  rw [e0, Nat.zero_mul, List.drop_zero, Nat.sub_zero] at hS
  have h63 : 0 + l.length ≤ maxLen := by simp only [maxLen]; omega
  have hA := apps_src (P := P) t t o.type E size ie.bytes 0 l.length zv hT (by rw [hi']; simp [hz, hsz]) hS h63 (by
    have : l.length * ie.bytes ≤ 1073741824 * 131072 := Nat.mul_le_mul (by omega) hb
    rw [Nat.zero_add]; omega)
  obtain ⟨v', w', hr, hm⟩ := Mem.apps (Mem.noRow hM E size) 0 rfl hA hzs h63
  have hm : Mem (rowC E size v' (0 + l.length) ([] ++ cellsL enc l) :: qcC E size (ε 0 0).2 l.length (cellsL enc l) :: R) w' := hm
  rw [Nat.zero_add, List.nil_append] at hm
  have hs' : asSl v' = v' := asSl_self (hm.owns 0 rfl)
  have hm2 := hm.weaken fun S hS => row_q hS
  refine res_ok (x_append ho hc ha hat hx hy hr) ⟨fun _ => (0, v'), by simp only [SV.den, eset_at, hs'], ?_⟩
  show Mem (qcC E size (eset ε 1 (fun _ => (0, v')) 0 0).2 l.length (cellsL enc l) :: qcC E size (eset ε 1 (fun _ => (0, v')) 1 0).2 l.length (cellsL enc l) :: R) w'
  rw [eset_at, eset_ne (show (0 : Nat) ≠ 1 by decide)]
  exact mem_perm (List.Perm.swap _ _ _) hm2
end
end Go.Sx
namespace Go.Proofs.YtmhbpifhpolghaaGreat
open Go.RowKit Go.Lib Go.Tk Go.Shelf Go.Vc Go.Sx
def rclH (L : List (DocV × DocA)) (R : RefV) : Heap := [((1, 0), .box none [.val (.int .u8 R.self), .val (.int .i64 R.n), .raw 1 1, .raw 1 2, .raw 1 3]), ((1, 1), .fam (rdQ L)), ((1, 2), .fam (rownsF R.owns)), ((1, 3), .fam (rheldsF R.helds))]
theorem rcl_shut (L : List (DocV × DocA)) (R : RefV) (ε : Env) (Z : List Chunk) (w : World) (h : Mem (hden ε (rclH L R) ++ Z) w) : Mem (refF (rdQ L) R (ε 1 0).1 (ε 1 0).2 :: Z) w := by
  have h1 : Mem (boxE none (ε 1 0).1 #[.int .u8 R.self, .int .i64 R.n, asSl (ε 1 1).2, asSl (ε 1 2).2, asSl (ε 1 3).2] :: qcC 42 17 (ε 1 1).2 L.length (cellsL docL L) :: qcC 71 13 (ε 1 2).2 R.owns.length (cellsL mineC R.owns) :: qcC 124 13 (ε 1 3).2 R.helds.length (cellsL otherC R.helds) :: Z) w := h
  have asl : ∀ {E size : Nat} {v : Value} {n : Nat} {xs : List Value}, QF E size w v n xs → asSl v = v := fun h => by
    obtain ⟨a, c, hv, -⟩ := h.isL
    rw [hv]; rfl
  rw [asl (Mem.qs h1 1 rfl), asl (Mem.qs h1 2 rfl), asl (Mem.qs h1 3 rfl)] at h1
  exact rfM_shut (rdQ L) R (1, 0) (1, 1) (1, 2) (1, 3) ε Z w h1
theorem rclone_w (L : List (DocV × DocA)) (R : RefV) (hl : L.length ≤ 1000000) (hn : R.owns.length ≤ 1000000) (hm : R.helds.length ≤ 1000000) : CallOK Tryz.prog RCloneF [.ptr 0 0 0] [] (rfC (rdQ L) R) (.ptr 1 0 0) (rfC (rdQ L) R ++ [((1, 0), .fam (refF (rdQ L) R))]) := by
  have q1 := q_copy0 (P := Tryz.prog) (t := 63) (E := 42) (size := 17) (enc := docL) L doc_len doc_one Tryz.underlying63 (by kernel_rfl) (by omega)
  have q2 := q_copy0 (P := Tryz.prog) (t := 64) (E := 71) (size := 13) (enc := mineC) R.owns mine_len mine_one Tryz.underlying64 (by kernel_rfl) (by omega)
  have q3 := q_copy0 (P := Tryz.prog) (t := 65) (E := 124) (size := 13) (enc := otherC) R.helds kidOtherL other_one Tryz.underlying65 (by kernel_rfl) (by omega)
  have key : CallOK Tryz.prog RCloneF [.ptr 0 0 0] [] (rfS (rdQ L) R 0) (.ptr 1 0 0) (rfN (rdQ L) R (0, 1) (0, 2) (0, 3) ++ rclH L R) := callOK_run 400 [hG 1 12 q1, hG 1 17 q2, hG 1 22 q3] (by kernel_rfl) (by kernel_rfl)
  have key2 : CallOK Tryz.prog RCloneF [.ptr 0 0 0] [] (rfS (rdQ L) R 0) (.ptr 1 0 0) (rfN (rdQ L) R (0, 1) (0, 2) (0, 3) ++ [((1, 0), .fam (refF (rdQ L) R))]) := key.post_mono fun ε Z w hM => by
    rw [hden_append, List.append_assoc] at hM ⊢
    have h1 : Mem (hden ε (rclH L R) ++ (hden ε (rfN (rdQ L) R (0, 1) (0, 2) (0, 3)) ++ Z)) w := mem_perm (by
      rw [← List.append_assoc, ← List.append_assoc]
      exact List.Perm.append_right Z List.perm_append_comm) hM
    have h2 := rcl_shut L R ε _ w h1
    exact mem_perm List.perm_middle.symm h2
  exact rshutN (n1 := (0, 1)) (n2 := (0, 2)) (n3 := (0, 3)) (post := [((1, 0), .fam (refF (rdQ L) R))]) key2 rfl rfl rfl rfl
def RSame15F : Nat := 22
def mineEq (x y : Kid × OwnV) : Bool := rkEq x.1 y.1 && (ownEq x.2 y.2 && true)
def otherEq (x y : Kid × HeldV) : Bool := rkEq x.1 y.1 && (heldEq x.2 y.2 && true)
theorem mineEq_iff (x y : Kid × OwnV) : mineEq x y = true ↔ x = y := by
  obtain ⟨x1, x2⟩ := x
  obtain ⟨y1, y2⟩ := y
  unfold mineEq
  rw [Bool.and_true, Bool.and_eq_true, rkEq_iff, ownEq_iff]
  simp
theorem otherEq_iff (x y : Kid × HeldV) : otherEq x y = true ↔ x = y := by
  obtain ⟨x1, x2⟩ := x
  obtain ⟨y1, y2⟩ := y
  unfold otherEq
  rw [Bool.and_true, Bool.and_eq_true, rkEq_iff, heldEq_iff]
  simp
structure RefEq (L M : List (DocV × DocA)) (R S : RefV) : Prop where
  self : R.self = S.self
  n : R.n = S.n
  docs : L.map (·.1) = M.map (·.1)
  owns : R.owns = S.owns
  helds : R.helds = S.helds
noncomputable def refEqB (L M : List (DocV × DocA)) (R S : RefV) : Bool := @decide (RefEq L M R S) (Classical.propDecidable _)
theorem refEqB_yes {L M : List (DocV × DocA)} {R S : RefV} (h : RefEq L M R S) : refEqB L M R S = true := by unfold refEqB; exact @decide_eq_true _ (Classical.propDecidable _) h
theorem refEqB_no {L M : List (DocV × DocA)} {R S : RefV} (h : ¬ RefEq L M R S) : refEqB L M R S = false := by unfold refEqB; exact @decide_eq_false _ (Classical.propDecidable _) h
def sm2H (L M : List (DocV × DocA)) (R S : RefV) (G : CF) : Heap := rfS (rdQ L) R 0 ++ (rfM (rdQ M) S (0, 20) (0, 21) (0, 22) (0, 23) ++ [((0, 9), .fam G)])
section
variable (G : CF) {L M : List (DocV × DocA)} {R S : RefV} {eb : Env} {R0 : List Chunk}
theorem rsame_helds (hl : R.helds.length = S.helds.length) (hn : R.helds.length ≤ 1000000) (hh : R.self = S.self ∧ R.n = S.n ∧ L.map (·.1) = M.map (·.1) ∧ R.owns = S.owns) :
    Go Tryz.prog RSame15F (.val (.bool (refEqB L M R S))) (sm2H L M R S G ++ []) eb R0 .nrm (rgK Tryz.prog RSame15F 13 []) [(0, .ptr 0 0 0), (1, .ptr 0 20 0)] (sm2H L M R S G) := by
  have ql := q_len (P := Tryz.prog) (E := 124) (size := 13) (enc := otherC) R.helds
  refine go_loop (X := { i : Nat // i ≤ R.helds.length ∧ R.helds.take i = S.helds.take i }) 2 [] (fun y => ([(0, .ptr 0 0 0), (1, .ptr 0 20 0), (7, .val (.int .i64 (y.1 : Int)))], sm2H L M R S G)) (fun y => R.helds.length - y.1) ⟨0, Nat.zero_le _, by simp⟩ calNone false 400 [] calNone_ok (by kernel_rfl) ?_
  rintro ⟨i, hi, hp⟩ J hJ
  by_cases h : i < R.helds.length
  · have h' : i < S.helds.length := by omega
    have z0 : decide ((i : Int) < (R.helds.length : Int)) = true := decide_eq_true (by omega)
    have z9 : IntKind.i64.wrap ((i : Int) + 1) = ((i + 1 : Nat) : Int) := by rw [wr_i64 (by omega)]; omega
    have q1 := hidx R.helds h
    have q2 := hload R.helds (getD_some h other0) (t := 124) (j := 0) (u := .agg (otherS (R.helds.getD i other0))) (by kernel_rfl)
    have q3 := hidx S.helds h'
    have q4 := hload S.helds (getD_some h' other0) (t := 124) (j := 0) (u := .agg (otherS (S.helds.getD i other0))) (by kernel_rfl)
    have htk := take_getD (l := R.helds) (m := S.helds) other0 h h' hp
    rcases Bool.eq_false_or_eq_true (!otherEq (R.helds.getD i other0) (S.helds.getD i other0)) with e1 | e1
    · rw [refEqB_no fun e => by rw [e.helds, (otherEq_iff _ _).2 rfl] at e1; cases e1]
      clear hJ htk
      generalize R.helds.getD i other0 = x at *
      generalize S.helds.getD i other0 = y at *
      unfold otherEq rkEq heldEq cpnEq legEq at e1
      exact leaf_end calNone false 400 [hG 14 5 ql, hB 14 6 _ _ z0, hG 16 5 q1, hG 16 6 q2, hG 16 12 q3, hG 16 13 q4, hB 16 14 _ _ e1] calNone_ok (by kernel_rfl)
    · have e : R.helds.getD i other0 = S.helds.getD i other0 := by rw [Bool.not_eq_false'] at e1; exact (otherEq_iff _ _).1 e1
      have hJ' : ∀ ε a' w, Rel (ntOf Tryz.prog RSame15F) 1 eb R0 ⟨[(0, .ptr 0 0 0), (1, .ptr 0 20 0), (7, .val (.int .i64 ((i + 1 : Nat) : Int)))], sm2H L M R S G, 2⟩ ε a' w → J a' w := hJ ⟨i + 1, h, htk e⟩ (by show _ - (i + 1) < _ - i; omega)
      clear hJ htk e
      generalize R.helds.getD i other0 = x at *
      generalize S.helds.getD i other0 = y at *
      unfold otherEq rkEq heldEq cpnEq legEq at e1
      exact leaf_round (lpK Tryz.prog RSame15F 2 []) false 400 [hG 14 5 ql, hB 14 6 _ _ z0, hG 16 5 q1, hG 16 6 q2, hG 16 12 q3, hG 16 13 q4, hB 16 14 _ _ e1, hI 15 1 IntKind.i64 _ _ z9] hJ' (by kernel_rfl)
  · have he : i = R.helds.length := by omega
    have z0 : decide ((i : Int) < (R.helds.length : Int)) = false := decide_eq_false (by omega)
    have el : R.helds = S.helds := by rw [he, List.take_of_length_le (Nat.le_refl _), hl, List.take_of_length_le (Nat.le_refl _)] at hp; exact hp
    rw [refEqB_yes ⟨hh.1, hh.2.1, hh.2.2.1, hh.2.2.2, el⟩]
    clear hJ
    exact leaf_end calNone false 400 [hG 14 5 ql, hB 14 6 _ _ z0] calNone_ok (by kernel_rfl)
theorem rsame_owns (hl : R.helds.length = S.helds.length) (hn : R.helds.length ≤ 1000000) (ol : R.owns.length = S.owns.length) (on : R.owns.length ≤ 1000000) (hh : R.self = S.self ∧ R.n = S.n ∧ L.map (·.1) = M.map (·.1)) :
    Go Tryz.prog RSame15F (.val (.bool (refEqB L M R S))) (sm2H L M R S G ++ []) eb R0 .nrm (rgK Tryz.prog RSame15F 8 []) [(0, .ptr 0 0 0), (1, .ptr 0 20 0)] (sm2H L M R S G) := by
  have fin := fun e => rsame_helds G hl hn ⟨hh.1, hh.2.1, hh.2.2, e⟩ (eb := eb) (R0 := R0)
  have ql := q_len (P := Tryz.prog) (E := 71) (size := 13) (enc := mineC) R.owns
  refine go_loop (X := { i : Nat // i ≤ R.owns.length ∧ R.owns.take i = S.owns.take i }) 1 [] (fun y => ([(0, .ptr 0 0 0), (1, .ptr 0 20 0), (6, .val (.int .i64 (y.1 : Int)))], sm2H L M R S G)) (fun y => R.owns.length - y.1) ⟨0, Nat.zero_le _, by simp⟩ calNone false 400 [] calNone_ok (by kernel_rfl) ?_
  rintro ⟨i, hi, hp⟩ J hJ
  by_cases h : i < R.owns.length
  · have h' : i < S.owns.length := by omega
    have z0 : decide ((i : Int) < (R.owns.length : Int)) = true := decide_eq_true (by omega)
    have z9 : IntKind.i64.wrap ((i : Int) + 1) = ((i + 1 : Nat) : Int) := by rw [wr_i64 (by omega)]; omega
    have q1 := oidx R.owns h
    have q2 := oload R.owns (getD_some h mine0) (t := 71) (j := 0) (u := .agg (mineS (R.owns.getD i mine0))) (by kernel_rfl)
    have q3 := oidx S.owns h'
    have q4 := oload S.owns (getD_some h' mine0) (t := 71) (j := 0) (u := .agg (mineS (S.owns.getD i mine0))) (by kernel_rfl)
    have htk := take_getD (l := R.owns) (m := S.owns) mine0 h h' hp
    rcases Bool.eq_false_or_eq_true (!mineEq (R.owns.getD i mine0) (S.owns.getD i mine0)) with e1 | e1
    · rw [refEqB_no fun e => by rw [e.owns, (mineEq_iff _ _).2 rfl] at e1; cases e1]
      clear hJ htk fin
      generalize R.owns.getD i mine0 = x at *
      generalize S.owns.getD i mine0 = y at *
      unfold mineEq rkEq ownEq cpnEq legEq at e1
      exact leaf_end calNone false 400 [hG 9 5 ql, hB 9 6 _ _ z0, hG 11 5 q1, hG 11 6 q2, hG 11 12 q3, hG 11 13 q4, hB 11 14 _ _ e1] calNone_ok (by kernel_rfl)
    · have e : R.owns.getD i mine0 = S.owns.getD i mine0 := by rw [Bool.not_eq_false'] at e1; exact (mineEq_iff _ _).1 e1
      have hJ' : ∀ ε a' w, Rel (ntOf Tryz.prog RSame15F) 1 eb R0 ⟨[(0, .ptr 0 0 0), (1, .ptr 0 20 0), (6, .val (.int .i64 ((i + 1 : Nat) : Int)))], sm2H L M R S G, 2⟩ ε a' w → J a' w := hJ ⟨i + 1, h, htk e⟩ (by show _ - (i + 1) < _ - i; omega)
      clear hJ htk fin e
      generalize R.owns.getD i mine0 = x at *
      generalize S.owns.getD i mine0 = y at *
      unfold mineEq rkEq ownEq cpnEq legEq at e1
      exact leaf_round (lpK Tryz.prog RSame15F 1 []) false 400 [hG 9 5 ql, hB 9 6 _ _ z0, hG 11 5 q1, hG 11 6 q2, hG 11 12 q3, hG 11 13 q4, hB 11 14 _ _ e1, hI 10 1 IntKind.i64 _ _ z9] hJ' (by kernel_rfl)
  · have he : i = R.owns.length := by omega
    have z0 : decide ((i : Int) < (R.owns.length : Int)) = false := decide_eq_false (by omega)
    have el : R.owns = S.owns := by rw [he, List.take_of_length_le (Nat.le_refl _), ol, List.take_of_length_le (Nat.le_refl _)] at hp; exact hp
    have fin := fin el
    clear hJ
    exact leaf_cut (rgK Tryz.prog RSame15F 13 []) _ _ calNone false 400 [hG 9 5 ql, hB 9 6 _ _ z0, .stop 13] calNone_ok (by kernel_rfl) fin
theorem rsame15_o (hL : ∀ p ∈ L, SaleOk p.1.s ∧ p.1.vals.length ≤ 1073741824 ∧ DocRdG G p.1 p.2) (hM : ∀ p ∈ M, SaleOk p.1.s ∧ p.1.vals.length ≤ 1073741824 ∧ DocRdG G p.1 p.2) (n1 : L.length ≤ 1000000) (n2 : R.owns.length ≤ 1000000) (n3 : R.helds.length ≤ 1000000) :
    CallOK Tryz.prog RSame15F [.ptr 0 0 0, .ptr 0 20 0] (sm2H L M R S G) [] (.val (.bool (refEqB L M R S))) [] := by
  have ql := q_len (P := Tryz.prog) (E := 42) (size := 17) (enc := docL) L
  have ql2 := q_len (P := Tryz.prog) (E := 42) (size := 17) (enc := docL) M
  have qo := q_len (P := Tryz.prog) (E := 71) (size := 13) (enc := mineC) R.owns
  have qo2 := q_len (P := Tryz.prog) (E := 71) (size := 13) (enc := mineC) S.owns
  have qh := q_len (P := Tryz.prog) (E := 124) (size := 13) (enc := otherC) R.helds
  have qh2 := q_len (P := Tryz.prog) (E := 124) (size := 13) (enc := otherC) S.helds
  rcases Bool.eq_false_or_eq_true (!decide (R.self = S.self)) with e1 | e1
  · rw [refEqB_no fun e => by rw [e.self] at e1; simp at e1]
    exact callOK_run 400 [hB 1 8 _ _ e1] (by kernel_rfl) (by kernel_rfl)
  rcases Bool.eq_false_or_eq_true (!decide (R.n = S.n)) with e2 | e2
  · rw [refEqB_no fun e => by rw [e.n] at e2; simp at e2]
    exact callOK_run 400 [hB 1 8 _ _ e1, hB 1 18 _ _ e2] (by kernel_rfl) (by kernel_rfl)
  rcases Bool.eq_false_or_eq_true (!decide ((L.length : Int) = (M.length : Int))) with e3 | e3
  · rw [refEqB_no fun e => by
      have := congrArg List.length e.docs
      rw [List.length_map, List.length_map] at this
      rw [this] at e3; simp at e3]
    exact callOK_run 400 [hB 1 8 _ _ e1, hB 1 18 _ _ e2, hG 1 25 ql, hG 1 30 ql2, hB 1 31 _ _ e3] (by kernel_rfl) (by kernel_rfl)
  rcases Bool.eq_false_or_eq_true (!decide ((R.owns.length : Int) = (S.owns.length : Int))) with e4 | e4
  · rw [refEqB_no fun e => by rw [e.owns] at e4; simp at e4]
    exact callOK_run 400 [hB 1 8 _ _ e1, hB 1 18 _ _ e2, hG 1 25 ql, hG 1 30 ql2, hB 1 31 _ _ e3, hG 1 38 qo, hG 1 43 qo2, hB 1 44 _ _ e4] (by kernel_rfl) (by kernel_rfl)
  rcases Bool.eq_false_or_eq_true (!decide ((R.helds.length : Int) = (S.helds.length : Int))) with e5 | e5
  · rw [refEqB_no fun e => by rw [e.helds] at e5; simp at e5]
    exact callOK_run 400 [hB 1 8 _ _ e1, hB 1 18 _ _ e2, hG 1 25 ql, hG 1 30 ql2, hB 1 31 _ _ e3, hG 1 38 qo, hG 1 43 qo2, hB 1 44 _ _ e4, hG 1 51 qh, hG 1 56 qh2, hB 1 57 _ _ e5] (by kernel_rfl) (by kernel_rfl)
  have m1 : R.self = S.self := by rw [Bool.not_eq_false', decide_eq_true_eq] at e1; exact e1
  have m2 : R.n = S.n := by rw [Bool.not_eq_false', decide_eq_true_eq] at e2; exact e2
  have m3 : L.length = M.length := by rw [Bool.not_eq_false', decide_eq_true_eq] at e3; omega
  have m4 : R.owns.length = S.owns.length := by rw [Bool.not_eq_false', decide_eq_true_eq] at e4; omega
  have m5 : R.helds.length = S.helds.length := by rw [Bool.not_eq_false', decide_eq_true_eq] at e5; omega
  refine callOK_intro (by kernel_rfl) fun eb R0 => ?_
  have fin := fun e => rsame_owns G (L := L) (M := M) m5 n3 m4 n2 ⟨m1, m2, e⟩ (eb := eb) (R0 := R0)
  clear m1 m2 m4 m5
  refine go_loop (X := { i : Nat // i ≤ L.length ∧ (L.map (·.1)).take i = (M.map (·.1)).take i }) 0 [] (fun y => ([(0, .ptr 0 0 0), (1, .ptr 0 20 0), (5, .val (.int .i64 (y.1 : Int)))], sm2H L M R S G)) (fun y => L.length - y.1) ⟨0, Nat.zero_le _, by simp⟩ calNone false 400 [hB 1 8 _ _ e1, hB 1 18 _ _ e2, hG 1 25 ql, hG 1 30 ql2, hB 1 31 _ _ e3, hG 1 38 qo, hG 1 43 qo2, hB 1 44 _ _ e4, hG 1 51 qh, hG 1 56 qh2, hB 1 57 _ _ e5] calNone_ok (by kernel_rfl) ?_
  clear e1 e2 e3 e4 e5 qo qo2 qh qh2 ql2
  rintro ⟨i, hi, hp⟩ J hJ
  by_cases h : i < L.length
  · have h' : i < M.length := by omega
    have z0 : decide ((i : Int) < (L.length : Int)) = true := decide_eq_true (by omega)
    have z9 : IntKind.i64.wrap ((i : Int) + 1) = ((i + 1 : Nat) : Int) := by rw [wr_i64 (by omega)]; omega
    have q1 := q_idx (P := Tryz.prog) (t := 63) (i := i) (k := .i64) (E := 42) (size := 17) (enc := docL) L (fun _ => rfl) (by decide) (by kernel_rfl) h
    have q2 := q_load (P := Tryz.prog) (t := 42) (b := i * 17) (j := 0) (cs := docSA (L.getD i pdZ).1 (L.getD i pdZ).2) (u := .agg (docSA (L.getD i pdZ).1 (L.getD i pdZ).2)) (E := 42) (size := 17) (enc := docL) L (by kernel_rfl) (docSA_nth h)
    have q3 := q_idx (P := Tryz.prog) (t := 63) (i := i) (k := .i64) (E := 42) (size := 17) (enc := docL) M (fun _ => rfl) (by decide) (by kernel_rfl) h'
    have q4 := q_load (P := Tryz.prog) (t := 42) (b := i * 17) (j := 0) (cs := docSA (M.getD i pdZ).1 (M.getD i pdZ).2) (u := .agg (docSA (M.getD i pdZ).1 (M.getD i pdZ).2)) (E := 42) (size := 17) (enc := docL) M (by kernel_rfl) (docSA_nth h')
    obtain ⟨a1, a2, a3⟩ := hL _ (List.mem_of_getElem? (getD_some h pdZ))
    obtain ⟨b1, b2, b3⟩ := hM _ (List.mem_of_getElem? (getD_some h' pdZ))
    have c1 := rdocsG G a1 b1 a2 b2 a3 b3
    have hL1 : (L.map (·.1))[i]? = some (L.getD i pdZ).1 := by rw [List.getElem?_map, getD_some h pdZ]; rfl
    have hM1 : (M.map (·.1))[i]? = some (M.getD i pdZ).1 := by rw [List.getElem?_map, getD_some h' pdZ]; rfl
    have htk : (L.getD i pdZ).1 = (M.getD i pdZ).1 → (L.map (·.1)).take (i + 1) = (M.map (·.1)).take (i + 1) := fun e => by
      rw [List.take_add_one, List.take_add_one, hp, hL1, hM1, e]
    rcases Bool.eq_false_or_eq_true (decide ((L.getD i pdZ).1 = (M.getD i pdZ).1)) with e1 | e1 <;> rw [e1] at c1
    · have hJ' : ∀ ε a' w, Rel (ntOf Tryz.prog RSame15F) 1 eb R0 ⟨[(0, .ptr 0 0 0), (1, .ptr 0 20 0), (5, .val (.int .i64 ((i + 1 : Nat) : Int)))], sm2H L M R S G, 2⟩ ε a' w → J a' w := hJ ⟨i + 1, h, htk (of_decide_eq_true e1)⟩ (by show _ - (i + 1) < _ - i; omega)
      clear hJ htk fin hL1 hM1 a3 b3
      generalize L.getD i pdZ = x at *
      generalize M.getD i pdZ = y at *
      exact leaf_round (lpK Tryz.prog RSame15F 0 []) false 400 [hG 4 5 ql, hB 4 6 _ _ z0, hG 6 5 q1, hG 6 6 q2, hG 6 12 q3, hG 6 13 q4, hC 6 14 c1, hI 5 1 IntKind.i64 _ _ z9] hJ' (by kernel_rfl)
    · rw [refEqB_no fun e => by
        have := of_decide_eq_false e1
        rw [e.docs, hM1] at hL1
        exact this (by injection hL1 with hL1; exact hL1.symm)]
      clear hJ htk fin hL1 hM1 a3 b3
      generalize L.getD i pdZ = x at *
      generalize M.getD i pdZ = y at *
      exact leaf_end calNone false 400 [hG 4 5 ql, hB 4 6 _ _ z0, hG 6 5 q1, hG 6 6 q2, hG 6 12 q3, hG 6 13 q4, hC 6 14 c1] calNone_ok (by kernel_rfl)
  · have he : i = L.length := by omega
    have z0 : decide ((i : Int) < (L.length : Int)) = false := decide_eq_false (by omega)
    have el : L.map (·.1) = M.map (·.1) := by
      rw [he, List.take_of_length_le (by rw [List.length_map]; exact Nat.le_refl _), List.take_of_length_le (by rw [List.length_map]; omega)] at hp
      exact hp
    have fin := fin el
    clear hJ
    exact leaf_cut (rgK Tryz.prog RSame15F 8 []) _ _ calNone false 400 [hG 4 5 ql, hB 4 6 _ _ z0, .stop 8] calNone_ok (by kernel_rfl) fin
end
theorem go_rawR {P : Program} {f : Nat} {ret : SV} {rp : Heap} {eb : Env} {R : List Chunk} {e : Ex} {K : List It} {sl : Slots} {H : Heap} (k j : Nat) (a : Option Addr) (m c E size : Nat) (xs : List Value) (sl' : Slots) (H0 H' : Heap) (h0 : H = ((1, j), .fam fun _ _ => rowC E size (.slice a m c) m xs) :: H0) (h1 : sl = knSl (1, k) (.slice a m c) sl') (h2 : H0 = knH (1, k) (.slice a m c) H')
    (h3 : sl.all (fun x => x.2.ok (isNm k)) = true) (h4 : hok (isNm k) H0 = true) (h5 : sl'.all (fun x => x.2.ok (ltB 2)) = true) (h6 : hok (ltB 2) H' = true) (h7 : ndB (names (((1, k), SC.row E size m (.shal xs) []) :: H')) = true) (h : Go P f ret rp eb R e K sl' (((1, k), SC.row E size m (.shal xs) []) :: H')) : Go P f ret rp eb R e K sl H := by
  intro ε a' w hr
  subst h0; subst h1; subst h2
  have key : ∀ s j, isNm k s j = true → ε s j = eset ε 1 (fun j => bif Nat.beq j k then (0, Value.slice a m c) else ε 1 j) s j := fun s j hs => by
    by_cases h0 : s = 1
    · subst h0
      rw [eset_at]
      cases hb : Nat.beq j k with
      | false => rfl
      | true => unfold isNm at hs; rw [hb] at hs; cases hs
    · rw [eset_ne h0]
  have ek : asSl (eset ε 1 (fun j => bif Nat.beq j k then (0, Value.slice a m c) else ε 1 j) (1, k).1 (1, k).2).2 = .slice a m c := by
    show asSl (eset ε 1 _ 1 k).2 = _
    rw [eset_at, Nat.beq_refl]; rfl
  refine h (eset ε 1 fun j => bif Nat.beq j k then (0, Value.slice a m c) else ε 1 j) a' w ⟨hr.size, hr.defers, ?_, ?_, ndB_nodup h7, ?_, ?_, hr.pos⟩
  · intro d v hv
    have hm := lkS_mem hv
    refine ⟨?_, List.all_eq_true.1 h5 _ hm⟩
    have hv2 : lkS (knSl (1, k) (.slice a m c) sl') d = some (v.kn 1 k (.slice a m c)) := lkS_knS hv
    have h7 := hr.slots d _ hv2
    rw [h7.1]
    have hok : (v.kn 1 k (.slice a m c)).ok (isNm k) = true := List.all_eq_true.1 h3 _ (lkS_mem hv2)
    rw [SV.den_congr key _ hok, SV.kn_den ek]
  · have h7 : Mem (rowC E size (.slice a m c) m xs :: (hden ε (knH (1, k) (.slice a m c) H') ++ R)) w := hr.mem
    rw [hden_congr key h4] at h7
    have e1 : hden (eset ε 1 fun j => bif Nat.beq j k then (0, Value.slice a m c) else ε 1 j) (knH (1, k) (.slice a m c) H') = hden (eset ε 1 fun j => bif Nat.beq j k then (0, Value.slice a m c) else ε 1 j) H' := by
      unfold hden knH
      rw [List.map_map]
      exact List.map_congr_left fun x _ => SC.kn_den ek x.1 x.2
    rw [e1] at h7
    show Mem (rowC E size (asSl (eset ε 1 (fun j => bif Nat.beq j k then (0, Value.slice a m c) else ε 1 j) (1, k).1 (1, k).2).2) m xs :: (hden _ H' ++ R)) w
    rw [ek]
    exact h7
  · unfold hok at h6 ⊢
    rw [List.all_cons, h6, Bool.and_true]
    rfl
  · intro t ht
    rw [eset_ne (by omega)]
    exact hr.e0 t ht
def rdE (L : List (DocV × DocA)) (d : DocV) (A : SaleA) : Nat → Value → List Value → Chunk
  | _, v, [.slice va _ vc] => rdQ (L ++ [(d, ⟨A.la, A.lc, A.ta, A.tc, va, vc⟩)]) 0 v
  | _, _, _ => allC []
def riP (L : List (DocV × DocA)) (B : RefV) (s : SaleV) (A : SaleA) : Heap := [((0, 0), .box none [.val (.int .u8 B.self), .val (.int .i64 B.n), .any 1 4, .any 1 5, .any 0 3]), ((1, 4), .famE [.raw 1 0] (rdE L (docMade B.nextT s) A)), ((1, 5), .fam (rownsF (B.issued s A).owns)), ((0, 3), .fam (rheldsF B.helds)), ((1, 0), i64R (shareV s.fare (wsOf s)).length (shareV s.fare (wsOf s)))]
theorem rissueQ_no (F : CF) (L : List (DocV × DocA)) {B : RefV} (hLl : L.length = B.docs.length) {s : SaleV} {A : SaleA} (ok : SaleOk s) (hs : 0 ≤ B.self ∧ B.self ≤ 255) (hd : B.docs.length ≤ 32) (hl : ∀ b v, Rd (F b v) A.la (cellsL encLeg s.legs)) (ht : ∀ b v, Rd (F b v) A.ta (cellsL encTax s.taxes)) (hm : B.issE s ≠ 0) :
    CallOK Tryz.prog RIssueF [.ptr 0 0 0, .agg (saleX s A)] [((0, 9), .fam F)] (rfS (rdQ L) B 0) (.tup [.agg (docS doc0 nilS nilS nilS), eN (B.issE s)]) (rfS (rdQ L) B 0) := by
  have c1 := q_len (P := Tryz.prog) (E := 42) (size := 17) (enc := docL) L
  rw [hLl] at c1
  rcases Bool.eq_false_or_eq_true (decide ((32 : Int) ≤ (B.docs.length : Int))) with g1 | g1
  · have e : B.issE s = 3 := by unfold RefV.issE; rw [g1]; rfl
    rw [e]
    exact (callOK_run 400 [hG 1 4 c1, hB 1 5 _ _ g1] (by kernel_rfl) (by kernel_rfl))
  · have e : B.issE s = makeE B.self ((B.docs.length : Int) + 1) s B.n := by unfold RefV.issE; rw [g1]; rfl
    rw [e] at hm ⊢
    have c2 := rmake_no F ok (c := B.self) (r := (B.docs.length : Int) + 1) (n := B.n) hs hl ht hm
    have w1 : IntKind.i64.wrap ((B.docs.length : Int) + 1) = (B.docs.length : Int) + 1 := wr_i64 (by omega)
    have w2 : IntKind.u64.wrap ((B.docs.length : Int) + 1) = (B.docs.length : Int) + 1 := wr_u64 (by omega)
    have g2 : (!decide (makeE B.self ((B.docs.length : Int) + 1) s B.n = 0)) = true := by simpa using hm
    exact (callOK_run 400 [hG 1 4 c1, hB 1 5 _ _ g1, hG 3 8 c1, hI 3 9 IntKind.i64 _ _ w1, hI 3 10 IntKind.u64 _ _ w2, hC 3 17 c2, hB 4 1 _ _ g2] (by kernel_rfl) (by kernel_rfl))
theorem rissueQ_ok (F : CF) (L : List (DocV × DocA)) {B : RefV} (hLl : L.length = B.docs.length) {s : SaleV} {A : SaleA} (ok : SaleOk s) (hs : 0 ≤ B.self ∧ B.self ≤ 255) (ho : B.owns.length ≤ 1000000) (hl : ∀ b v, Rd (F b v) A.la (cellsL encLeg s.legs)) (ht : ∀ b v, Rd (F b v) A.ta (cellsL encTax s.taxes)) (hm : B.issE s = 0) :
    CallOK Tryz.prog RIssueF [.ptr 0 0 0, .agg (saleX s A)] [((0, 9), .fam F)] (rfS (rdQ L) B 0) (.tup [.agg (docS (docMade B.nextT s) (.val (.slice A.la s.legs.length A.lc)) (.val (.slice A.ta s.taxes.length A.tc)) (.raw 1 0)), eN 0]) (riP L B s A) := by
  have c1 := q_len (P := Tryz.prog) (E := 42) (size := 17) (enc := docL) L
  rw [hLl] at c1
  have g1 : decide ((32 : Int) ≤ (B.docs.length : Int)) = false := by
    cases h : decide ((32 : Int) ≤ (B.docs.length : Int)) with
    | false => rfl
    | true => unfold RefV.issE at hm; rw [h] at hm; cases hm
  have hm : makeE B.self ((B.docs.length : Int) + 1) s B.n = 0 := by unfold RefV.issE at hm; rw [g1] at hm; exact hm
  have c2 := rmake_ok F ok (c := B.self) (r := (B.docs.length : Int) + 1) (n := B.n) hs hl ht hm
  have hdl : B.docs.length < 32 := by have := of_decide_eq_false g1; omega
  have w1 : IntKind.i64.wrap ((B.docs.length : Int) + 1) = (B.docs.length : Int) + 1 := wr_i64 (by omega)
  have w2 : IntKind.u64.wrap ((B.docs.length : Int) + 1) = (B.docs.length : Int) + 1 := wr_u64 (by omega)
  have hck : checkE s B.n = 0 := by
    unfold makeE at hm
    split at hm
    · cases hm
    · exact hm
  obtain ⟨-, -, hsh, -⟩ := check_shape hck
  obtain ⟨hS, -, l1, l4, -, -⟩ := shape_share ok hsh
  have hvl : (shareV s.fare (wsOf s)).length = s.legs.length := by rw [shareV_len hS, ws_len]
  refine callOK_intro (by kernel_rfl) fun eb R => ?_
  refine leaf_cut (rgK Tryz.prog RIssueF 6 []) [(0, .ptr 0 0 0), (3, .ptr 1 0 0), (4, .ptr 1 1 0), (6, .ptr 1 2 0)]
    ([((0, 9), .fam F)] ++ (rfS (rdQ L) B 0 ++ [((1, 0), .box none (saleX s A)), ((1, 1), .box none (docS doc0 nilS nilS nilS)), ((1, 2), .box none (docS (docMade B.nextT s) (.val (.slice A.la s.legs.length A.lc)) (.val (.slice A.ta s.taxes.length A.tc)) (.raw 1 3))), ((1, 3), i64R (shareV s.fare (wsOf s)).length (shareV s.fare (wsOf s)))]))
    calNone false 400 [hG 1 4 c1, hB 1 5 _ _ g1, hG 3 8 c1, hI 3 9 IntKind.i64 _ _ w1, hI 3 10 IntKind.u64 _ _ w2, hC 3 17 c2, .stop 6] calNone_ok (by kernel_rfl) ?_
  refine go_row (1, 3) 2 1 (shareV s.fare (wsOf s)).length ((shareV s.fare (wsOf s)).map (.int .i64)) (by kernel_rfl) fun va vc hva => ?_
  refine go_as [(0, .ptr 0 0 0), (3, .ptr 1 0 0), (4, .ptr 1 1 0), (6, .ptr 1 2 0)] ([((0, 9), .fam F)] ++ (rfS (rdQ L) B 0 ++ [((1, 0), .box none (saleX s A)), ((1, 1), .box none (docS doc0 nilS nilS nilS)), ((1, 2), .box none (docSA (docMade B.nextT s) ⟨A.la, A.lc, A.ta, A.tc, va, vc⟩)), ((1, 3), .fam fun _ _ => valsRow (docMade B.nextT s, ⟨A.la, A.lc, A.ta, A.tc, va, vc⟩))]))
    (by kernel_rfl) (by kernel_rfl) ?_
  refine go_open (X := Unit) (fun _ => [((0, 9), .fam F), ((0, 0), .box none [.val (.int .u8 B.self), .val (.int .i64 B.n), .any 0 1, .any 0 2, .any 0 3]), ((0, 1), .fam (rdQ L)), ((0, 2), .fam (rownsF B.owns)), ((0, 3), .fam (rheldsF B.helds)), ((1, 0), .box none (saleX s A)), ((1, 1), .box none (docS doc0 nilS nilS nilS)), ((1, 2), .box none (docSA (docMade B.nextT s) ⟨A.la, A.lc, A.ta, A.tc, va, vc⟩)), ((0, 8), .fam fun _ _ => valsRow (docMade B.nextT s, ⟨A.la, A.lc, A.ta, A.tc, va, vc⟩))]) (fun ε w hM => ⟨(), hM⟩) (fun _ => by kernel_rfl) ?_
  intro _
  have q1 := q_app (P := Tryz.prog) (e := 0) (t := 63) (E := 42) (size := 17) (enc := docL) L (docMade B.nextT s, ⟨A.la, A.lc, A.ta, A.tc, va, vc⟩) (docSA (docMade B.nextT s) ⟨A.la, A.lc, A.ta, A.tc, va, vc⟩) (fun _ => rfl) (doc_one _) (doc_len _) Tryz.underlying63 (by kernel_rfl) (by omega)
  have q2 := q_put (P := Tryz.prog) (t := 63) (off := 2) (cs := [.val (.int .u8 B.self), .val (.int .i64 B.n), .any 0 1, .any 0 2, .any 0 3]) (cs' := [.val (.int .u8 B.self), .val (.int .i64 B.n), .any 0 9, .any 0 2, .any 0 3]) (E := 42) (size := 17) (enc := docL) (L ++ [(docMade B.nextT s, ⟨A.la, A.lc, A.ta, A.tc, va, vc⟩)]) (by kernel_rfl) (by show (2 + 1 : Nat) ≤ 5; omega) rfl rfl
  refine go_loop (X := { i : Nat // i ≤ s.legs.length }) 0 [] (fun x => ([(0, .ptr 0 0 0), (3, .ptr 1 0 0), (4, .ptr 1 1 0), (6, .ptr 1 2 0), (8, .val (.int .i64 (x.1 : Int)))],
      [((1, 4), .fam (rdQ (L ++ [(docMade B.nextT s, ⟨A.la, A.lc, A.ta, A.tc, va, vc⟩)]))), ((0, 9), .fam F), ((0, 0), .box none [.val (.int .u8 B.self), .val (.int .i64 B.n), .any 1 4, .any 1 5, .any 0 3]), ((1, 5), .fam (rownsF (issR B.nextT s (shareV s.fare (wsOf s)) B.owns x.1))), ((0, 3), .fam (rheldsF B.helds)), ((1, 0), .box none (saleX s A)), ((1, 1), .box none (docS doc0 nilS nilS nilS)), ((1, 2), .box none (docSA (docMade B.nextT s) ⟨A.la, A.lc, A.ta, A.tc, va, vc⟩)), ((0, 8), .fam fun _ _ => valsRow (docMade B.nextT s, ⟨A.la, A.lc, A.ta, A.tc, va, vc⟩))]))
    (fun x => s.legs.length - x.1) ⟨0, Nat.zero_le _⟩ calNone false 400 [hG 6 7 q1, hG 6 10 q2] calNone_ok (by kernel_rfl) ?_
  rintro ⟨i, hi⟩ J hJ
  by_cases h : i < s.legs.length
  · have z0 : decide ((i : Int) < ((shareV s.fare (wsOf s)).length : Int)) = true := decide_eq_true (by omega)
    have hv : i < (shareV s.fare (wsOf s)).length := by omega
    have hR : ∀ b v, Rd ((fun (_ : Nat) (_ : Value) => valsRow (docMade B.nextT s, ⟨A.la, A.lc, A.ta, A.tc, va, vc⟩)) b v) va ((shareV s.fare (wsOf s)).map (.int .i64)) := fun _ _ => rd_row
    have q3 := idx_openG (P := Tryz.prog) (t := 40) (e := 2) (size := 1) (j := 8) (k := .i64) (cap := vc) (n := (shareV s.fare (wsOf s)).length) Tryz.underlying40 (by kernel_rfl) (by rw [List.length_map, Nat.mul_one]) hR hv
    have q4 := load_openG0 (P := Tryz.prog) (t := 2) (k := i * 1) (j := 8) (cs := [.val (.int .i64 ((shareV s.fare (wsOf s)).getD i 0))]) (u := .val (.int .i64 ((shareV s.fare (wsOf s)).getD i 0))) (by kernel_rfl) hR (fun ε q v hq => by
      cases q with
      | succ q => cases hq
      | zero =>
        cases hq
        show ((shareV s.fare (wsOf s)).map (Value.int .i64))[i * 1 + 0]? = _
        rw [Nat.mul_one, Nat.add_zero, List.getElem?_map, getD_some hv 0]; rfl) (by rw [List.length_map]; show 0 < (shareV s.fare (wsOf s)).length; omega)
    have q5 := idx_openG (P := Tryz.prog) (t := 33) (e := 48) (size := 3) (j := 9) (k := .i64) (cap := A.lc) (n := s.legs.length) Tryz.underlying33 (by kernel_rfl) (cellsL_len encLeg_len _) hl h
    have q6 := load_openG0 (P := Tryz.prog) (t := 48) (k := i * 3) (j := 9) (cs := legS' (s.legs.getD i leg0)) (u := .agg (legS' (s.legs.getD i leg0))) (by kernel_rfl) hl (legS_nth (getD_some h leg0)) (by rw [cellsL_len encLeg_len]; omega)
    have z1 : IntKind.u8.wrap (i : Int) = (i : Int) := wr_u8 (by omega)
    have z2 : IntKind.i64.wrap ((i : Int) + 1) = ((i + 1 : Nat) : Int) := by rw [wr_i64 (by omega)]; omega
    have q7 := q_app (P := Tryz.prog) (e := 0) (t := 64) (E := 71) (size := 13) (enc := mineC) (issR B.nextT s (shareV s.fare (wsOf s)) B.owns i) (⟨B.nextT, (i : Int)⟩, ownNew (s.legs.getD i leg0) ((shareV s.fare (wsOf s)).getD i 0)) (mineS (⟨B.nextT, (i : Int)⟩, ownNew (s.legs.getD i leg0) ((shareV s.fare (wsOf s)).getD i 0))) (fun _ => rfl) (mine_one _) (mine_len _) Tryz.underlying64 (by kernel_rfl) (by rw [issR_len]; omega)
    have q8 := q_put (P := Tryz.prog) (t := 64) (off := 3) (cs := [.val (.int .u8 B.self), .val (.int .i64 B.n), .any 0 1, .any 0 2, .any 0 3]) (cs' := [.val (.int .u8 B.self), .val (.int .i64 B.n), .any 0 1, .any 0 9, .any 0 3]) (E := 71) (size := 13) (enc := mineC) (issR B.nextT s (shareV s.fare (wsOf s)) B.owns (i + 1)) (by kernel_rfl) (by show (3 + 1 : Nat) ≤ 5; omega) rfl rfl
    have hJ' := hJ ⟨i + 1, h⟩ (by show _ - (i + 1) < _ - i; omega)
    clear hJ c1 c2 q1 q2
    exact leaf_next calNone false 400 [hB 8 4 _ _ z0, hI 10 8 IntKind.u8 _ _ z1, hG 10 13 q5, hG 10 14 q6, hG 10 18 q3, hG 10 19 q4, hG 10 24 q7, hG 10 27 q8, hI 9 1 IntKind.i64 _ _ z2] calNone_ok hJ' (by kernel_rfl)
  have he : i = (shareV s.fare (wsOf s)).length := by omega
  subst he
  have z0 : decide (((shareV s.fare (wsOf s)).length : Int) < ((shareV s.fare (wsOf s)).length : Int)) = false := decide_eq_false (by omega)
  clear hJ c1 c2 q1 q2
  refine leaf_cut (rgK Tryz.prog RIssueF 11 []) [(0, .ptr 0 0 0), (4, .ptr 1 1 0), (6, .ptr 1 2 0)]
      [((1, 4), .fam (rdQ (L ++ [(docMade B.nextT s, ⟨A.la, A.lc, A.ta, A.tc, va, vc⟩)]))), ((0, 9), .fam F), ((0, 0), .box none [.val (.int .u8 B.self), .val (.int .i64 B.n), .any 1 4, .any 1 5, .any 0 3]), ((1, 5), .fam (rownsF (issR B.nextT s (shareV s.fare (wsOf s)) B.owns (shareV s.fare (wsOf s)).length))), ((0, 3), .fam (rheldsF B.helds)), ((1, 1), .box none (docS doc0 nilS nilS nilS)), ((1, 2), .box none (docSA (docMade B.nextT s) ⟨A.la, A.lc, A.ta, A.tc, va, vc⟩)), ((0, 8), .fam fun _ _ => valsRow (docMade B.nextT s, ⟨A.la, A.lc, A.ta, A.tc, va, vc⟩))]
      calNone false 400 [hB 8 4 _ _ z0, .stop 11] calNone_ok (by kernel_rfl) ?_
  refine go_open (X := Unit) (fun _ => [((1, 8), .fam fun _ _ => valsRow (docMade B.nextT s, ⟨A.la, A.lc, A.ta, A.tc, va, vc⟩)), ((1, 4), .famE [.val (.slice va (shareV s.fare (wsOf s)).length vc)] (rdE L (docMade B.nextT s) A)), ((0, 9), .fam F), ((0, 0), .box none [.val (.int .u8 B.self), .val (.int .i64 B.n), .any 1 4, .any 1 5, .any 0 3]), ((1, 5), .fam (rownsF (issR B.nextT s (shareV s.fare (wsOf s)) B.owns (shareV s.fare (wsOf s)).length))), ((0, 3), .fam (rheldsF B.helds)), ((1, 1), .box none (docS doc0 nilS nilS nilS)), ((1, 2), .box none (docS (docMade B.nextT s) (.val (.slice A.la s.legs.length A.lc)) (.val (.slice A.ta s.taxes.length A.tc)) (.val (.slice va (shareV s.fare (wsOf s)).length vc))))])
    (fun ε w hM => ⟨(), hM.front 7 rfl⟩) (fun _ => by kernel_rfl) ?_
  intro _
  refine go_rawR 7 8 va (shareV s.fare (wsOf s)).length vc 2 1 ((shareV s.fare (wsOf s)).map (.int .i64)) [(0, .ptr 0 0 0), (4, .ptr 1 1 0), (6, .ptr 1 2 0)] [((1, 4), .famE [.val (.slice va (shareV s.fare (wsOf s)).length vc)] (rdE L (docMade B.nextT s) A)), ((0, 9), .fam F), ((0, 0), .box none [.val (.int .u8 B.self), .val (.int .i64 B.n), .any 1 4, .any 1 5, .any 0 3]), ((1, 5), .fam (rownsF (issR B.nextT s (shareV s.fare (wsOf s)) B.owns (shareV s.fare (wsOf s)).length))), ((0, 3), .fam (rheldsF B.helds)), ((1, 1), .box none (docS doc0 nilS nilS nilS)), ((1, 2), .box none (docS (docMade B.nextT s) (.val (.slice A.la s.legs.length A.lc)) (.val (.slice A.ta s.taxes.length A.tc)) (.val (.slice va (shareV s.fare (wsOf s)).length vc))))] [((1, 4), .famE [.raw 1 7] (rdE L (docMade B.nextT s) A)), ((0, 9), .fam F), ((0, 0), .box none [.val (.int .u8 B.self), .val (.int .i64 B.n), .any 1 4, .any 1 5, .any 0 3]), ((1, 5), .fam (rownsF (issR B.nextT s (shareV s.fare (wsOf s)) B.owns (shareV s.fare (wsOf s)).length))), ((0, 3), .fam (rheldsF B.helds)), ((1, 1), .box none (docS doc0 nilS nilS nilS)), ((1, 2), .box none (docS (docMade B.nextT s) (.val (.slice A.la s.legs.length A.lc)) (.val (.slice A.ta s.taxes.length A.tc)) (.raw 1 7)))] (by kernel_rfl) (by kernel_rfl) (by kernel_rfl) (by kernel_rfl) (by kernel_rfl) (by kernel_rfl) (by kernel_rfl) (by kernel_rfl) ?_
  exact leaf_end calNone false 400 [] calNone_ok (by kernel_rfl)
end Go.Proofs.YtmhbpifhpolghaaGreat
end
