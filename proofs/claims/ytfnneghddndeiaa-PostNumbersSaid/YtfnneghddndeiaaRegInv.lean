/- The rule of a region that draws its order, in a fence, by an invariant of what has come up. -/
import Derived.Test.YtfnneghddndeiaaMap
import Derived.OrdersIn
import Derived.OwnWalkIn
namespace Go.Tk
open Go.RowKit

theorem wpAnyIn_inv {F : Fence} {n : Nat} {P : Program} {ops : Array Oper} {Q : Exit → Act → World → Prop} {md : Region.Mode} (I : Array Bool → Act → World → Prop)
    (hstep : ∀ (listed : Array Bool) (a : Act) (w : World), listed.size = ops.size → I listed a w → ∀ i ∈ Region.ready md ops listed, wpOpIn F n P ops Q i (I (listed.setIfInBounds i true)) a w)
    (hend : ∀ (listed : Array Bool) (a : Act) (w : World), listed.size = ops.size → I listed a w → Region.ready md ops listed = [] → Q .normal a w) :
    ∀ (fuel : Nat) (listed : Array Bool) (a : Act) (w : World), listed.size = ops.size → (listed.toList.filter (fun b => !b)).length ≤ fuel → I listed a w → wpAnyIn F n P md ops Q fuel listed a w
  | 0, listed, a, w, hs, hf, hI => by
    have hall : ∀ i, i < listed.size → listed[i]? = some true := by
      intro i hi
      have h0 : listed.toList.filter (fun b => !b) = [] := List.length_eq_zero_iff.1 (Nat.le_zero.1 hf)
      have h1 := List.filter_eq_nil_iff.1 h0 listed[i] (by simp)
      simp at h1
      rw [Array.getElem?_eq_getElem hi, h1]
    have hr : Region.ready md ops listed = [] := by
      unfold Region.ready
      rw [List.filter_eq_nil_iff]
      intro i hi
      have := hall i (by rw [hs]; simpa using hi)
      simp [this]
    exact ⟨hr, hend listed a w hs hI hr⟩
  | fuel + 1, listed, a, w, hs, hf, hI => by
    refine ⟨fun hr => hend listed a w hs hI hr, fun i hi => ?_⟩
    refine wpOpIn_mono (fun a' w' h => ?_) (hstep listed a w hs hI i hi)
    refine wpAnyIn_inv I hstep hend fuel _ a' w' (by simpa using hs) ?_ h
    have hm := hi
    unfold Region.ready at hm
    obtain ⟨h1, h2⟩ := List.mem_filter.1 hm
    have hlt : i < listed.size := by rw [hs]; simpa using h1
    have hfalse : listed[i] = false := by
      simp only [Bool.and_eq_true, Bool.not_eq_true'] at h2
      have := h2.1
      simpa [hlt] using this
    rw [Array.toList_setIfInBounds]
    obtain ⟨r, p1, p2⟩ := set_perm' (l := listed.toList) (j := i) (a := false) (b := true) (by simp [hlt, hfalse])
    have q1 := (p1.filter (fun b => !b)).length_eq
    have q2 := (p2.filter (fun b => !b)).length_eq
    simp at q1 q2
    simp only [q2]
    omega

theorem wpAnyIn_inv0 {F : Fence} {n : Nat} {P : Program} {ops : Array Oper} {Q : Exit → Act → World → Prop} {md : Region.Mode} (I : Act → Array Bool → Act → World → Prop) {fuel : Nat} {listed0 : Array Bool} {a0 : Act} {w0 : World}
    (hstep : ∀ (listed : Array Bool) (a : Act) (w : World), listed.size = ops.size → I a0 listed a w → ∀ i ∈ Region.ready md ops listed, wpOpIn F n P ops Q i (I a0 (listed.setIfInBounds i true)) a w)
    (hend : ∀ (listed : Array Bool) (a : Act) (w : World), listed.size = ops.size → I a0 listed a w → Region.ready md ops listed = [] → Q .normal a w)
    (hs : listed0.size = ops.size) (hf : (listed0.toList.filter (fun b => !b)).length ≤ fuel) (h0 : I a0 listed0 a0 w0) : wpAnyIn F n P md ops Q fuel listed0 a0 w0 :=
  wpAnyIn_inv (I a0) hstep hend _ _ _ _ hs hf h0

/-- 15 operations, the first 14 of which leave values in temporaries 35 to 48; the last three turn the world -/
def RegI (V : Nat → Value) (W0 W1 W2 W3 : World) (a0 : Act) (l : Array Bool) (a : Act) (wx : World) : Prop :=
  ∃ s0 s1 s2 s3 s4 s5 s6 s7 s8 s9 s10 s11 s12 s13 : Value,
    a = { tmps := (((((((((((((a0.tmps.setIfInBounds 35 s0).setIfInBounds 36 s1).setIfInBounds 37 s2).setIfInBounds 38 s3).setIfInBounds 39 s4).setIfInBounds 40 s5).setIfInBounds 41 s6).setIfInBounds 42 s7).setIfInBounds 43 s8).setIfInBounds 44 s9).setIfInBounds 45 s10).setIfInBounds 46 s11).setIfInBounds 47 s12).setIfInBounds 48 s13, defers := a0.defers } ∧
    (l.getD 0 false = true → s0 = V 0) ∧ (l.getD 1 false = true → s1 = V 1) ∧ (l.getD 2 false = true → s2 = V 2) ∧ (l.getD 3 false = true → s3 = V 3) ∧ (l.getD 4 false = true → s4 = V 4) ∧ (l.getD 5 false = true → s5 = V 5) ∧ (l.getD 6 false = true → s6 = V 6) ∧
    (l.getD 7 false = true → s7 = V 7) ∧ (l.getD 8 false = true → s8 = V 8) ∧ (l.getD 9 false = true → s9 = V 9) ∧ (l.getD 10 false = true → s10 = V 10) ∧ (l.getD 11 false = true → s11 = V 11) ∧ (l.getD 12 false = true → s12 = V 12) ∧ (l.getD 13 false = true → s13 = V 13) ∧
    (l.getD 12 false = false → wx = W0) ∧ (l.getD 12 false = true → l.getD 13 false = false → wx = W1) ∧ (l.getD 13 false = true → l.getD 14 false = false → wx = W2) ∧ (l.getD 14 false = true → wx = W3) ∧
    (l.getD 14 false = true → l.getD 13 false = true) ∧ (l.getD 13 false = true → l.getD 0 false = true ∧ l.getD 12 false = true) ∧ (l.getD 12 false = true → l.getD 11 false = true) ∧
    (l.getD 11 false = true → l.getD 4 false = true ∧ l.getD 5 false = true ∧ l.getD 9 false = true ∧ l.getD 10 false = true) ∧ (l.getD 9 false = true → l.getD 6 false = true ∧ l.getD 8 false = true) ∧ (l.getD 8 false = true → l.getD 7 false = true) ∧
    (l.getD 4 false = true → l.getD 3 false = true) ∧ (l.getD 3 false = true → l.getD 2 false = true) ∧ (l.getD 2 false = true → l.getD 1 false = true)
end Go.Tk
