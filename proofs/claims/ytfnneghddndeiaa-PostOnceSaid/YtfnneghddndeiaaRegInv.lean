/- The rule of a region that draws its order, in a fence, by an invariant of what has come up. -/
import Derived.Test.YtfnneghddndeiaaMap
import Derived.OrdersIn
import Derived.OwnWalkIn
namespace Go.Tk
set_option linter.unusedVariables false
set_option linter.unusedSimpArgs false
open Go.RowKit
theorem wpAnyIn_inv {F : Fence} {n : Nat} {P : Program} {ops : Array Oper} {Q : Exit → Act → World → Prop} {md : Region.Mode} (I : Array Bool → Act → World → Prop)
    (hstep : ∀ (listed : Array Bool) (a : Act) (w : World), listed.size = ops.size → I listed a w → ∀ i ∈ Region.ready md ops listed, wpOpIn F n P ops Q i (I (listed.setIfInBounds i true)) a w)
    (hend : ∀ (listed : Array Bool) (a : Act) (w : World), listed.size = ops.size → I listed a w → Region.ready md ops listed = [] → Q .normal a w) :
    ∀ (fuel : Nat) (listed : Array Bool) (a : Act) (w : World), listed.size = ops.size → (listed.toList.filter (fun b => !b)).length ≤ fuel → I listed a w → wpAnyIn F n P md ops Q fuel listed a w
  | 0, listed, a, w, hs, hf, hI => by
    have hall : ∀ i, i < listed.size → listed[i]? = some true := by
      intro i hi
      have h0 : listed.toList.filter (fun b => !b) = [] := List.length_eq_zero_iff.1 (Nat.le_zero.1 hf)
      have h1 := List.filter_eq_nil_iff.1 h0 listed[i] (by simp)
      simp at h1
      rw [Array.getElem?_eq_getElem hi, h1]
    have hr : Region.ready md ops listed = [] := by
      unfold Region.ready
      rw [List.filter_eq_nil_iff]
      intro i hi
      have := hall i (by rw [hs]; simpa using hi)
      simp [this]
    exact ⟨hr, hend listed a w hs hI hr⟩
  | fuel + 1, listed, a, w, hs, hf, hI => by
    refine ⟨fun hr => hend listed a w hs hI hr, fun i hi => ?_⟩
    refine wpOpIn_mono (fun a' w' h => ?_) (hstep listed a w hs hI i hi)
    refine wpAnyIn_inv I hstep hend fuel _ a' w' (by simpa using hs) ?_ h
    have hm := hi
    unfold Region.ready at hm
    obtain ⟨h1, h2⟩ := List.mem_filter.1 hm
    have hlt : i < listed.size := by rw [hs]; simpa using h1
    have hfalse : listed[i] = false := by
      simp only [Bool.and_eq_true, Bool.not_eq_true'] at h2
      have := h2.1
      simpa [hlt] using this
    rw [Array.toList_setIfInBounds]
    obtain ⟨r, p1, p2⟩ := set_perm' (l := listed.toList) (j := i) (a := false) (b := true) (by simp [hlt, hfalse])
    have q1 := (p1.filter (fun b => !b)).length_eq
    have q2 := (p2.filter (fun b => !b)).length_eq
    simp at q1 q2
    simp only [q2]
    omega
end Go.Tk
