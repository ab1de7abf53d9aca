/- StepApp, Lay. -/
import Derived.Test.YtfcjmpgbohgoeaaM5
import Derived.Deep.RegionLaw
import Derived.Deep.RegionHeldLaw
import Derived.Test.YtfcjmpgbohgoeaaFr
section
namespace Go.Tk
set_option linter.unusedVariables false
set_option linter.unusedSimpArgs false
open Go.RowKit Go.Lib

end Go.Tk
end
section
namespace Go.Tk
set_option linter.unusedVariables false
set_option linter.unusedSimpArgs false
open Go.RowKit Go.Lib

/-- the i-th thing's blocks are F i -/
structure Lay (w0 w : World) (F : Nat → Nat → Prop) : Prop where
  lo : ∀ i k, F i k → w0.heap.size ≤ k
  hi : ∀ i k, F i k → k < w.heap.size
  apart : ∀ i j k, i ≠ j → F i k → ¬ F j k
  below : Below w0.heap.size w0 w
theorem Lay.kept {w0 w w' : World} {F : Nat → Nat → Prop} (h : Lay w0 w F) (hb : Below w.heap.size w w') : Lay w0 w' F :=
  ⟨h.lo, fun i k hk => Nat.lt_of_lt_of_le (h.hi i k hk) hb.size, h.apart, h.below.trans (hb.mono h.below.size)⟩
theorem Lay.congr {w0 w : World} {F G : Nat → Nat → Prop} (h : Lay w0 w F) (e : ∀ i k, G i k → F i k) : Lay w0 w G :=
  ⟨fun i k hk => h.lo i k (e i k hk), fun i k hk => h.hi i k (e i k hk), fun i j k hij hi hj => h.apart i j k hij (e i k hi) (e j k hj), h.below⟩
/-- the i-th thing was changed, and may have new blocks -/
theorem Lay.step {w0 w w' : World} {F : Nat → Nat → Prop} (h : Lay w0 w F) (i : Nat) (G : Nat → Prop) (hf : Fr (F i) w w') (hG : ∀ k, G k → (F i k ∨ w.heap.size ≤ k) ∧ k < w'.heap.size) :
    Lay w0 w' (fun j => if j = i then G else F j) := by
  have lo : ∀ k, G k → w0.heap.size ≤ k := fun k hk => by
    rcases (hG k hk).1 with h1 | h1
    · exact h.lo i k h1
    · exact Nat.le_trans h.below.size h1
  refine ⟨fun j k hk => ?_, fun j k hk => ?_, fun a b k hab ha hb => ?_, h.below.trans (hf.below (fun b _ hb => h.lo i b hb) h.below.size)⟩
  · by_cases e : j = i
    · simp only [if_pos e] at hk; exact lo k hk
    · simp only [if_neg e] at hk; exact h.lo j k hk
  · by_cases e : j = i
    · simp only [if_pos e] at hk; exact (hG k hk).2
    · simp only [if_neg e] at hk; exact Nat.lt_of_lt_of_le (h.hi j k hk) hf.size
  · by_cases ea : a = i
    · have eb : b ≠ i := fun e => hab (ea.trans e.symm)
      simp only [if_pos ea] at ha
      simp only [if_neg eb] at hb
      rcases (hG k ha).1 with h1 | h1
      · exact h.apart i b k (fun e => eb e.symm) h1 hb
      · have := h.hi b k hb; omega
    · simp only [if_neg ea] at ha
      by_cases eb : b = i
      · simp only [if_pos eb] at hb
        rcases (hG k hb).1 with h1 | h1
        · exact h.apart a i k ea ha h1
        · have := h.hi a k ha; omega
      · simp only [if_neg eb] at hb
        exact h.apart a b k hab ha hb
/-- a row of one's own, beside what was changed -/
theorem Lay.row {w0 w w' : World} {F : Nat → Nat → Prop} (h : Lay w0 w F) {i j : Nat} (hij : i ≠ j) (hf : Fr (F i) w w') {base : Nat} {e : TypeId} {size : Nat} {v : Value} {n : Nat} {xs : List Value}
    (hr : w.ownsRow base e size v n xs) (hF : ∀ k, v.ownBlock = some k → F j k) : w'.ownsRow base e size v n xs := ownsRow_fr hr hf (fun g hg hi => h.apart i j g hij hi (hF g hg))
end Go.Tk
end
