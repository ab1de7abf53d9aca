/- MONEY 2: the sum and the product. -/
import Derived.Test.YtijldpkchmpjkaaRows
import Derived.Test.YtijldpkchmpjkaaMoney1
namespace Go.Proofs.Ytijldpkchmpjkaa
open Go.RowKit Go.Lib Go.Tk
theorem sumFrom_no {s x : Int} {r : List Int} (h : (addI s x).2 ≠ 0) : sumFrom s (x :: r) = (0, 7) := by rw [sumFrom, if_neg h]

/-- the product, if it may be -/
def mulI (a n : Int) : Int × Int :=
  if mayI a then if a = 0 ∨ n = 0 then (0, 0) else if mayI n && mayI (a * n) then (a * n, 0) else (0, 7) else (0, 7)

theorem mul_bound {a n : Int} (ha : a ≠ 0) : (n.natAbs : Int) ≤ 1125899906842624 / (a.natAbs : Int) ↔ mayI (a * n) = true := by
  have hp : (0 : Int) < a.natAbs := by omega
  rw [Int.le_ediv_iff_mul_le hp]
  have : ((n.natAbs : Int) * a.natAbs) = ((a * n).natAbs : Int) := by rw [Int.natAbs_mul, Nat.mul_comm]; simp
  rw [this]
  simp only [mayI, Bool.and_eq_true, decide_eq_true_eq]
  omega

end Go.Proofs.Ytijldpkchmpjkaa
