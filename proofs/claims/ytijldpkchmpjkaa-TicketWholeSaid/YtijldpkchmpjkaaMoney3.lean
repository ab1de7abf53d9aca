/- MONEY 3: the document product by doublings. -/
import Derived.Test.YtijldpkchmpjkaaRows
import Derived.Test.YtijldpkchmpjkaaMoney2
namespace Go.Proofs.Ytijldpkchmpjkaa
open Go.RowKit Go.Lib Go.Tk
/-- the double-and-add state: what is left of the factor, and the multiple so far -/
def DblAt (n K m : Int) : Prop := (∃ j : Nat, j ≤ 50 ∧ K = 2 ^ j ∧ m = n / (2 * K)) ∨ (K = 0 ∧ m = n)

theorem two_pow_le {j : Nat} (h : j ≤ 50) : (2 : Int) ^ j ≤ 1125899906842624 := by
  have h1 : 2 ^ j ≤ 2 ^ 50 := Nat.pow_le_pow_right (by decide) h
  have h2 : ((2 ^ j : Nat) : Int) = (2 : Int) ^ j := by simp
  rw [← h2]; omega

theorem dbl_start (n : Int) (h0 : 0 ≤ n) (h1 : n ≤ 1125899906842624) : DblAt n 1125899906842624 0 :=
  .inl ⟨50, by omega, by decide, by omega⟩

theorem two_pow_half (j : Nat) : ((2 : Int) ^ (j + 1)) / 2 = 2 ^ j := by
  rw [Int.pow_succ]; exact Int.mul_ediv_cancel _ (by decide)

theorem dbl_step {n K m : Int} (h : DblAt n K m) (hK : 0 < K) (_h0 : 0 ≤ n) : DblAt n (K / 2) (m * 2 + n / K % 2) ∧ K / 2 < K ∧ 0 ≤ K / 2 := by
  rcases h with ⟨j, hj, rfl, rfl⟩ | ⟨rfl, _⟩
  · refine ⟨?_, by omega, by omega⟩
    have e : n / (2 * 2 ^ j) = n / 2 ^ j / 2 := by rw [Int.mul_comm, Int.ediv_ediv_of_nonneg (by omega)]
    have e2 : n / (2 * 2 ^ j) * 2 + n / 2 ^ j % 2 = n / 2 ^ j := by rw [e]; omega
    rw [e2]
    cases j with
    | zero => exact .inr ⟨by decide, by simp⟩
    | succ j => exact .inl ⟨j, by omega, two_pow_half j, by rw [two_pow_half, Int.pow_succ, Int.mul_comm 2]⟩
  · omega

theorem dbl_le {n K m : Int} (h : DblAt n K m) (h0 : 0 ≤ n) : 0 ≤ m ∧ m ≤ n := by
  rcases h with ⟨j, hj, rfl, rfl⟩ | ⟨rfl, rfl⟩
  · have hp : (0 : Int) < 2 * 2 ^ j := by have := Int.pow_pos (n := 2) (m := j) (by decide); omega
    exact ⟨Int.ediv_nonneg h0 (by omega), Int.ediv_le_self _ h0⟩
  · omega

theorem dbl_over {n K m a x : Int} (h : DblAt n K m) (h0 : 0 ≤ n) (hx : x = m * a) (hb : x < -1125899906842624 ∨ 1125899906842624 < x) : mayI (a * n) = false := by
  obtain ⟨h1, h2⟩ := dbl_le h h0
  rw [← Bool.not_eq_true]; intro hm
  obtain ⟨h3, h4⟩ := mayI_of hm
  subst hx
  rcases Int.lt_or_le a 0 with ha | ha
  · have : a * n ≤ a * m := Int.mul_le_mul_of_nonpos_left (by omega) h2
    have h5 : m * a ≤ 0 := Int.mul_nonpos_of_nonneg_of_nonpos h1 (by omega)
    rw [Int.mul_comm a m] at this
    omega
  · have : a * m ≤ a * n := Int.mul_le_mul_of_nonneg_left h2 ha
    have h5 : 0 ≤ m * a := Int.mul_nonneg h1 ha
    rw [Int.mul_comm a m] at this
    omega

theorem dbl_end {n K m : Int} (h : DblAt n K m) (hK : ¬ 0 < K) : m = n := by
  rcases h with ⟨j, hj, rfl, rfl⟩ | ⟨_, h⟩
  · exact absurd (Int.pow_pos (by decide)) hK
  · exact h

theorem dbl_nn {n K m : Int} (h : DblAt n K m) : 0 ≤ K := by
  rcases h with ⟨j, hj, rfl, rfl⟩ | ⟨h, _⟩
  · exact Int.le_of_lt (Int.pow_pos (by decide))
  · omega


end Go.Proofs.Ytijldpkchmpjkaa
