/- POST, PostNumbers, plain: what was said to whom, and what waits. -/
import Derived.Test.YtfnneghddndeiaaPost8
namespace Go.Proofs.Ytfnneghddndeiaa
open Go.RowKit Go.Lib Go.Tk
def saidPut (S : Nat → List Msg) (c : Nat) (m : Msg) : Nat → List Msg := fun i => if i = c then S i ++ [m] else S i
structure NumOk (P : PostV) (S : Nat → List Msg) (k : Nat) : Prop where
  ok : PostOk P
  given : ∀ c : Nat, P.other c = true → (P.box c).given = (S c).length
  wait : ∀ c : Nat, P.other c = true → (P.box c).wait = (S c).drop ((S c).length - (P.box c).wait.length)
  no : ∀ c : Nat, P.other c = false → S c = []
  le : ∀ c, (S c).length ≤ k
theorem NumOk.step {P : PostV} {S : Nat → List Msg} {k : Nat} (h : NumOk P S k) : NumOk P S (k + 1) := ⟨h.ok, h.given, h.wait, h.no, fun c => Nat.le_succ_of_le (h.le c)⟩
theorem NumOk.did {P : PostV} {S : Nat → List Msg} {k : Nat} (h : NumOk P S k) (f : BoxV → Int × BoxV) (c : Int) (hc : 0 ≤ c) (hok : ∀ X, BoxOk X → BoxOk (f X).2) (hg : ∀ X, BoxOk X → (f X).2.given = X.given)
    (hw : ∀ X, BoxOk X → ∃ j, (f X).2.wait = X.wait.drop j) : NumOk (doP f P c).2 S (k + 1) := by
  obtain ⟨n, rfl⟩ : ∃ n : Nat, c = n := ⟨c.toNat, by omega⟩
  unfold doP
  by_cases ho : P.other n = true
  · rw [if_pos ho]
    have hB := h.ok.box n
    refine ⟨put_ok h.ok (hok _ hB), fun d hd => ?_, fun d hd => ?_, fun d hd => h.no d hd, fun d => Nat.le_succ_of_le (h.le d)⟩
    · have hd' : P.other d = true := hd
      show (if d = (n : Int).toNat then _ else _ : BoxV).given = _
      by_cases e : d = n
      · subst e; rw [if_pos (by simp)]; rw [Int.toNat_natCast, hg _ hB]; exact h.given d hd'
      · rw [if_neg (by simpa using e)]; exact h.given d hd'
    · have hd' : P.other d = true := hd
      have key : ∀ X : BoxV, (if d = (n : Int).toNat then X else P.box d) = (P.put (n : Int).toNat X).box d := fun _ => rfl
      by_cases e : d = n
      · subst e
        obtain ⟨j, hj⟩ := hw _ hB
        have hw0 := h.wait d hd'
        have : (P.put (d : Int).toNat (f (P.box (d : Int).toNat)).2).box d = (f (P.box d)).2 := by
          show (if d = (d : Int).toNat then _ else _) = _
          rw [if_pos (by simp), Int.toNat_natCast]
        rw [this, hj]
        have hle : (P.box d).wait.length ≤ (S d).length := by
          have := h.given d hd'; have := hB.le; omega
        rw [List.length_drop]
        conv => lhs; rw [hw0]
        rw [List.drop_drop]
        rcases Nat.lt_or_ge j (P.box d).wait.length with hl | hl
        · congr 1; omega
        · rw [List.drop_eq_nil_of_le (by omega), List.drop_eq_nil_of_le (by omega)]
      · have : (P.put (n : Int).toNat (f (P.box (n : Int).toNat)).2).box d = P.box d := by
          show (if d = (n : Int).toNat then _ else _) = _
          rw [if_neg (by simpa using e)]
        rw [this]; exact h.wait d hd'
  · rw [if_neg ho]; exact h.step
theorem NumOk.took {P : PostV} {S : Nat → List Msg} {k : Nat} (h : NumOk P S k) (c q : Int) (hc : 0 ≤ c) (h0 : 0 ≤ q) (h1 : q ≤ 18446744073709551615) : NumOk (doP (fun X => tookX X q) P c).2 S (k + 1) :=
  h.did (fun X => tookX X q) c hc (fun X hX => tookX_ok hX h0 h1) (fun X _ => by show (tookX X q).2.given = _; unfold tookX; split <;> rfl) (fun X _ => by show ∃ j, (tookX X q).2.wait = _; unfold tookX; split <;> exact ⟨0, rfl⟩)
theorem push_yes {P : PostV} {c : Int} {m : Msg} (h : (doP (fun X => pushX X m) P c).1 = 0) : P.other c = true ∧ (P.box c.toNat).wait.length < 32 := by
  unfold doP pushX at h
  split at h
  · rename_i ho
    refine ⟨ho, ?_⟩
    rcases Nat.lt_or_ge (P.box c.toNat).wait.length 32 with h1 | h1
    · exact h1
    · dsimp only at h; rw [if_pos h1] at h; cases h
  · cases h
theorem push_no {P : PostV} {c : Int} {m : Msg} (h : (doP (fun X => pushX X m) P c).1 ≠ 0) : (doP (fun X => pushX X m) P c).2 = P := by
  unfold doP pushX at h ⊢
  split
  · rename_i ho
    rw [if_pos ho] at h
    dsimp only at h ⊢
    split
    · exact PostV.put_same
    · rename_i h2; rw [if_neg h2] at h; exact absurd rfl h
  · rfl
theorem NumOk.push {P : PostV} {S : Nat → List Msg} {k : Nat} (h : NumOk P S k) (c : Int) (m : Msg) (hk : k < 4294967296) (h1 : (doP (fun X => pushX X m) P c).1 = 0) : NumOk (doP (fun X => pushX X m) P c).2 (saidPut S c.toNat m) (k + 1) := by
  obtain ⟨ho, hl⟩ := push_yes h1
  have hc : 0 ≤ c := by
    simp only [PostV.other, Bool.and_eq_true, decide_eq_true_eq] at ho
    exact ho.1.1
  obtain ⟨n, rfl⟩ : ∃ n : Nat, c = n := ⟨c.toNat, by omega⟩
  rw [Int.toNat_natCast] at hl ⊢
  have e2 : (doP (fun X => pushX X m) P n).2 = P.put n ⟨(P.box n).wait ++ [m], (P.box n).given + 1, (P.box n).last⟩ := by
    unfold doP pushX
    rw [if_pos ho]
    dsimp only
    rw [Int.toNat_natCast, if_neg (by omega)]
  have hB := h.ok.box n
  have hg := h.given n ho
  have hw := h.wait n ho
  have hk2 := h.le n
  have hle : (P.box n).wait.length ≤ (S n).length := by have := hB.le; omega
  rw [e2]
  have hb : ∀ d, (P.put n ⟨(P.box n).wait ++ [m], (P.box n).given + 1, (P.box n).last⟩).box d = if d = n then ⟨(P.box n).wait ++ [m], (P.box n).given + 1, (P.box n).last⟩ else P.box d := fun _ => rfl
  have hs : ∀ d, saidPut S n m d = if d = n then S d ++ [m] else S d := fun _ => rfl
  refine ⟨put_ok h.ok ⟨by simp; omega, by simp; omega, by show _ + 1 ≤ _; omega, hB.l0, hB.l1⟩, fun d hd => ?_, fun d hd => ?_, fun d hd => ?_, fun d => ?_⟩
  · have hd' : P.other d = true := hd
    rw [hb, hs]
    by_cases e : d = n
    · subst e; rw [if_pos rfl, if_pos rfl]; simp; omega
    · rw [if_neg e, if_neg e]; exact h.given d hd'
  · have hd' : P.other d = true := hd
    rw [hb, hs]
    by_cases e : d = n
    · subst e
      rw [if_pos rfl, if_pos rfl]
      simp only [List.length_append, List.length_cons, List.length_nil]
      rw [show (S d).length + (0 + 1) - ((P.box d).wait.length + (0 + 1)) = (S d).length - (P.box d).wait.length from by omega]
      rw [List.drop_append_of_le_length (by omega), ← hw]
    · rw [if_neg e, if_neg e]; exact h.wait d hd'
  · have hd' : P.other d = false := hd
    rw [hs]
    by_cases e : d = n
    · subst e; rw [ho] at hd'; cases hd'
    · rw [if_neg e]; exact h.no d hd'
  · rw [hs]
    have := h.le d
    split
    · simp; omega
    · omega
end Go.Proofs.Ytfnneghddndeiaa
