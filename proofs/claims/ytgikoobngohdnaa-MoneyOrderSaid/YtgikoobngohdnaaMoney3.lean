/- MONEY 3: the document product by doublings. -/
import Derived.Test.YtgikoobngohdnaaRows
import Derived.Test.YtgikoobngohdnaaMoney2
namespace Go.Proofs.Ytgikoobngohdnaa
open Go.RowKit Go.Lib Go.Tk
/-- the double-and-add state: what is left of the factor, and the multiple so far -/
def DblAt (n K m : Int) : Prop := (∃ j : Nat, j ≤ 50 ∧ K = 2 ^ j ∧ m = n / (2 * K)) ∨ (K = 0 ∧ m = n)

theorem two_pow_le {j : Nat} (h : j ≤ 50) : (2 : Int) ^ j ≤ 1125899906842624 := by
  have h1 : 2 ^ j ≤ 2 ^ 50 := Nat.pow_le_pow_right (by decide) h
  have h2 : ((2 ^ j : Nat) : Int) = (2 : Int) ^ j := by simp
  rw [← h2]; omega

theorem dbl_start (n : Int) (h0 : 0 ≤ n) (h1 : n ≤ 1125899906842624) : DblAt n 1125899906842624 0 :=
  .inl ⟨50, by omega, by decide, by omega⟩

theorem two_pow_half (j : Nat) : ((2 : Int) ^ (j + 1)) / 2 = 2 ^ j := by
  rw [Int.pow_succ]; exact Int.mul_ediv_cancel _ (by decide)

theorem dbl_step {n K m : Int} (h : DblAt n K m) (hK : 0 < K) (_h0 : 0 ≤ n) : DblAt n (K / 2) (m * 2 + n / K % 2) ∧ K / 2 < K ∧ 0 ≤ K / 2 := by
  rcases h with ⟨j, hj, rfl, rfl⟩ | ⟨rfl, _⟩
  · refine ⟨?_, by omega, by omega⟩
    have e : n / (2 * 2 ^ j) = n / 2 ^ j / 2 := by rw [Int.mul_comm, Int.ediv_ediv_of_nonneg (by omega)]
    have e2 : n / (2 * 2 ^ j) * 2 + n / 2 ^ j % 2 = n / 2 ^ j := by rw [e]; omega
    rw [e2]
    cases j with
    | zero => exact .inr ⟨by decide, by simp⟩
    | succ j => exact .inl ⟨j, by omega, two_pow_half j, by rw [two_pow_half, Int.pow_succ, Int.mul_comm 2]⟩
  · omega

theorem dbl_le {n K m : Int} (h : DblAt n K m) (h0 : 0 ≤ n) : 0 ≤ m ∧ m ≤ n := by
  rcases h with ⟨j, hj, rfl, rfl⟩ | ⟨rfl, rfl⟩
  · have hp : (0 : Int) < 2 * 2 ^ j := by have := Int.pow_pos (n := 2) (m := j) (by decide); omega
    exact ⟨Int.ediv_nonneg h0 (by omega), Int.ediv_le_self _ h0⟩
  · omega

theorem dbl_over {n K m a x : Int} (h : DblAt n K m) (h0 : 0 ≤ n) (hx : x = m * a) (hb : x < -1125899906842624 ∨ 1125899906842624 < x) : mayI (a * n) = false := by
  obtain ⟨h1, h2⟩ := dbl_le h h0
  rw [← Bool.not_eq_true]; intro hm
  obtain ⟨h3, h4⟩ := mayI_of hm
  subst hx
  rcases Int.lt_or_le a 0 with ha | ha
  · have : a * n ≤ a * m := Int.mul_le_mul_of_nonpos_left (by omega) h2
    have h5 : m * a ≤ 0 := Int.mul_nonpos_of_nonneg_of_nonpos h1 (by omega)
    rw [Int.mul_comm a m] at this
    omega
  · have : a * m ≤ a * n := Int.mul_le_mul_of_nonneg_left h2 ha
    have h5 : 0 ≤ m * a := Int.mul_nonneg h1 ha
    rw [Int.mul_comm a m] at this
    omega

theorem dbl_end {n K m : Int} (h : DblAt n K m) (hK : ¬ 0 < K) : m = n := by
  rcases h with ⟨j, hj, rfl, rfl⟩ | ⟨_, h⟩
  · exact absurd (Int.pow_pos (by decide)) hK
  · exact h

theorem dbl_nn {n K m : Int} (h : DblAt n K m) : 0 ≤ K := by
  rcases h with ⟨j, hj, rfl, rfl⟩ | ⟨h, _⟩
  · exact Int.le_of_lt (Int.pow_pos (by decide))
  · omega


set_option maxHeartbeats 1000000 in
theorem rmul_any (a n : Int) (w : World) (ha1 : -9223372036854775808 ≤ a) (ha2 : a ≤ 9223372036854775807) (hn1 : -9223372036854775808 ≤ n) (hn2 : n ≤ 9223372036854775807) :
    Calls Try.prog 32 #[.int .i64 a, .int .i64 n] w fun e w' => e = .returned (.tuple #[.int .i64 (mulI a n).1, .int .i64 (mulI a n).2]) ∧ w = w' := by
  cases h1 : mayI a
  · go_enter Try.func32, Try.ntmps32
    go_wp2_with (go_at_call 40; refine (rmay_any _ _).mono ?_; rintro e w' ⟨rfl, rfl⟩)
    go_ret2
    exact ⟨ret_i2 (by simp [mulI, h1]), rfl⟩
  by_cases ha : a = 0
  · subst ha
    go_enter Try.func32, Try.ntmps32
    go_wp2_with (go_at_call 40; refine (rmay_any _ _).mono ?_; rintro e w' ⟨rfl, rfl⟩)
    go_ret2
    exact ⟨ret_i2 (by simp [mulI, h1]), rfl⟩
  by_cases hn : n = 0
  · subst hn
    have ha' : (a == 0) = false := by simpa using ha
    go_enter Try.func32, Try.ntmps32
    go_wp2_with (go_at_call 40; refine (rmay_any _ _).mono ?_; rintro e w' ⟨rfl, rfl⟩)
    go_ret2
    exact ⟨ret_i2 (by simp [mulI, h1]), rfl⟩
  have ha' : (a == 0) = false := by simpa using ha
  have hn' : (n == 0) = false := by simpa using hn
  obtain ⟨a1, a2⟩ := mayI_of h1
  cases h2 : mayI n
  · have h3 : n < -1125899906842624 ∨ 1125899906842624 < n := by
      rw [← Bool.not_eq_true] at h2; simp only [mayI, Bool.and_eq_true, decide_eq_true_eq] at h2; omega
    rcases h3 with h3 | h3
    all_goals
      go_enter Try.func32, Try.ntmps32
      go_wp2_with (go_at_call 40; refine (rmay_any _ _).mono ?_; rintro e w' ⟨rfl, rfl⟩)
      go_ret2
      exact ⟨ret_i2 (by simp [mulI, h1, h2, ha, hn]), rfl⟩
  obtain ⟨n1, n2⟩ := mayI_of h2
  have fin0 : mayI (a * n) = false → mulI a n = (0, 7) := fun h => by simp [mulI, h1, h2, h, ha, hn]
  have fin1 : mayI (a * n) = true → mulI a n = (a * n, 0) := fun h => by simp [mulI, h1, h2, h, ha, hn]
  have Fin0 := hid fin0
  have Fin1 := hid fin1
  clear fin0 fin1
  by_cases hneg : n < 0
  · obtain ⟨q, rfl⟩ : ∃ q, n = -q := ⟨-n, by omega⟩
    go_enter Try.func32, Try.ntmps32
    go_wp2_with (go_at_call 40; refine (rmay_any _ _).mono ?_; rintro e w' ⟨rfl, rfl⟩)
    have q3 : decide (1125899906842624 < q) = false := by simp; omega
    have q5 : decide (1125899906842624 < -q) = false := by simp; omega
    have q4 : decide (0 < q) = true := by simp; omega
    simp only [q3, q4, q5, Bool.or_self]
    clear q3 q4 q5

    go_loop [6, 7] (fun o k => ∃ K m x : Int, k = .int .i64 K ∧ o = .int .i64 x ∧ Hid (x = m * (-a)) ∧ Hid (DblAt q K m) ∧ -4503599627370496 ≤ x ∧ x ≤ 4503599627370496) (fun _ k => (intOf k).toNat)
    case atStart => exact ⟨_, 0, _, rfl, rfl, hid (by simp), hid (dbl_start _ (by omega) (by omega)), by omega, by omega⟩
    case round =>
      obtain ⟨K, m, x, rfl, rfl, hx, hd, b1, b2⟩ := hrel
      have hK0 := dbl_nn hd.out
      have hK1 : K ≤ 1125899906842624 := by
        rcases hd.out with ⟨j, hj, rfl, _⟩ | ⟨h, _⟩
        · exact two_pow_le hj
        · omega
      by_cases hK : 0 < K
      · by_cases hov : x < -1125899906842624 ∨ 1125899906842624 < x
        · have F := hid (Fin0.out (by rw [show a * -q = -a * q by rw [Int.mul_neg, Int.neg_mul]]; exact dbl_over hd.out (by omega) hx.out hov))
          rcases hov with hov | hov
          all_goals
            go_wp2
            go_ret2
            exact ⟨ret_i2 (by rw [F.out]), rfl⟩
        · obtain ⟨c1, c2⟩ : -1125899906842624 ≤ x ∧ x ≤ 1125899906842624 := by omega
          clear hov
          obtain ⟨hst, hlt, hnn⟩ := dbl_step hd.out hK (by omega)
          have Hst := hid hst
          clear hst
          have hdk : 0 ≤ q / K := Int.ediv_nonneg (by omega) (by omega)
          have hodd : q / K % 2 = 1 ∨ q / K % 2 = 0 := by omega
          rcases hodd with hodd | hodd
          · have hbit : (q / K % 2 == 1) = true := by rw [hodd]; rfl
            have Hodd := hid hodd
            clear hodd
            go_wp2
            go_round
            case rel => exact ⟨_, _, _, rfl, rfl, hid (by rw [hx.out, Hodd.out, Int.add_mul, Int.one_mul, Int.mul_right_comm]), Hst, by omega, by omega⟩
            case measure => simp [intOf]; omega
          · have hbit : (q / K % 2 == 1) = false := by rw [hodd]; rfl
            have Hodd := hid hodd
            clear hodd
            go_wp2
            go_round
            case rel => exact ⟨_, _, _, rfl, rfl, hid (by rw [hx.out, Hodd.out, Int.add_zero, Int.mul_right_comm]), Hst, by omega, by omega⟩
            case measure => simp [intOf]; omega
      · have he : x = -a * q := by rw [hx.out, dbl_end hd.out hK, Int.mul_comm]
        have HE := hid he
        clear he
        cases hm : mayI x
        · have F := hid (Fin0.out (by rw [show a * -q = -a * q by rw [Int.mul_neg, Int.neg_mul]]; exact by rw [← HE.out]; exact hm))
          go_wp2_with (go_at_call 40; refine (rmay_any _ _).mono ?_; rintro e w' ⟨rfl, rfl⟩)
          go_ret2
          exact ⟨ret_i2 (by rw [F.out]), rfl⟩
        · have F := hid (Fin1.out (by rw [show a * -q = -a * q by rw [Int.mul_neg, Int.neg_mul]]; exact by rw [← HE.out]; exact hm))
          go_wp2_with (go_at_call 40; refine (rmay_any _ _).mono ?_; rintro e w' ⟨rfl, rfl⟩)
          go_ret2
          exact ⟨ret_i2 (by rw [F.out, HE.out, Int.mul_neg, Int.neg_mul]), rfl⟩
  
  · go_enter Try.func32, Try.ntmps32
    go_wp2_with (go_at_call 40; refine (rmay_any _ _).mono ?_; rintro e w' ⟨rfl, rfl⟩)

    go_loop [6, 7] (fun o k => ∃ K m x : Int, k = .int .i64 K ∧ o = .int .i64 x ∧ Hid (x = m * a) ∧ Hid (DblAt n K m) ∧ -4503599627370496 ≤ x ∧ x ≤ 4503599627370496) (fun _ k => (intOf k).toNat)
    case atStart => exact ⟨_, 0, _, rfl, rfl, hid (by simp), hid (dbl_start _ (by omega) (by omega)), by omega, by omega⟩
    case round =>
      obtain ⟨K, m, x, rfl, rfl, hx, hd, b1, b2⟩ := hrel
      have hK0 := dbl_nn hd.out
      have hK1 : K ≤ 1125899906842624 := by
        rcases hd.out with ⟨j, hj, rfl, _⟩ | ⟨h, _⟩
        · exact two_pow_le hj
        · omega
      by_cases hK : 0 < K
      · by_cases hov : x < -1125899906842624 ∨ 1125899906842624 < x
        · have F := hid (Fin0.out (dbl_over hd.out (by omega) hx.out hov))
          rcases hov with hov | hov
          all_goals
            go_wp2
            go_ret2
            exact ⟨ret_i2 (by rw [F.out]), rfl⟩
        · obtain ⟨c1, c2⟩ : -1125899906842624 ≤ x ∧ x ≤ 1125899906842624 := by omega
          clear hov
          obtain ⟨hst, hlt, hnn⟩ := dbl_step hd.out hK (by omega)
          have Hst := hid hst
          clear hst
          have hdk : 0 ≤ n / K := Int.ediv_nonneg (by omega) (by omega)
          have hodd : n / K % 2 = 1 ∨ n / K % 2 = 0 := by omega
          rcases hodd with hodd | hodd
          · have hbit : (n / K % 2 == 1) = true := by rw [hodd]; rfl
            have Hodd := hid hodd
            clear hodd
            go_wp2
            go_round
            case rel => exact ⟨_, _, _, rfl, rfl, hid (by rw [hx.out, Hodd.out, Int.add_mul, Int.one_mul, Int.mul_right_comm]), Hst, by omega, by omega⟩
            case measure => simp [intOf]; omega
          · have hbit : (n / K % 2 == 1) = false := by rw [hodd]; rfl
            have Hodd := hid hodd
            clear hodd
            go_wp2
            go_round
            case rel => exact ⟨_, _, _, rfl, rfl, hid (by rw [hx.out, Hodd.out, Int.add_zero, Int.mul_right_comm]), Hst, by omega, by omega⟩
            case measure => simp [intOf]; omega
      · have he : x = a * n := by rw [hx.out, dbl_end hd.out hK, Int.mul_comm]
        have HE := hid he
        clear he
        cases hm : mayI x
        · have F := hid (Fin0.out (by rw [← HE.out]; exact hm))
          go_wp2_with (go_at_call 40; refine (rmay_any _ _).mono ?_; rintro e w' ⟨rfl, rfl⟩)
          go_ret2
          exact ⟨ret_i2 (by rw [F.out]), rfl⟩
        · have F := hid (Fin1.out (by rw [← HE.out]; exact hm))
          go_wp2_with (go_at_call 40; refine (rmay_any _ _).mono ?_; rintro e w' ⟨rfl, rfl⟩)
          go_ret2
          exact ⟨ret_i2 (by rw [F.out, HE.out]), rfl⟩
  
end Go.Proofs.Ytgikoobngohdnaa
