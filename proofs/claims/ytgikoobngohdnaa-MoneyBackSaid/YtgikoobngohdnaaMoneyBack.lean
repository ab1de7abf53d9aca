/- MoneyBack: sums and products both ways. -/
import Derived.Test.YtgikoobngohdnaaMoney7
import Derived.Deep.DeepCutAuto
namespace Go.Proofs.Ytgikoobngohdnaa
open Go.RowKit Go.Lib Go.Tk

theorem addI_comm (a b : Int) : addI a b = addI b a := by
  unfold addI; rw [Int.add_comm a b, Bool.and_comm (mayI a)]

theorem mulI_ok {a n : Int} (ha : mayI a = true) (h : a = 0 ∨ n = 0 ∨ (mayI n = true ∧ mayI (a * n) = true)) : mulI a n = (a * n, 0) := by
  unfold mulI
  rw [if_pos ha]
  rcases h with rfl | rfl | ⟨h1, h2⟩
  · simp
  · simp
  · split
    · rename_i h; rcases h with rfl | rfl <;> simp
    · simp [h1, h2]

theorem mulI_cases (a n : Int) : mulI a n = (0, 7) ∨ (mulI a n = (a * n, 0) ∧ mayI a = true ∧ mayI (a * n) = true ∧ (a = 0 ∨ n = 0 ∨ (mayI n = true ∧ mayI (a * n) = true))) := by
  cases ha : mayI a
  · left; simp [mulI, ha]
  · by_cases h0 : a = 0 ∨ n = 0
    · right
      have h1 : a * n = 0 := by rcases h0 with rfl | rfl <;> simp
      exact ⟨mulI_ok ha (by rcases h0 with h | h; exact .inl h; exact .inr (.inl h)), rfl, by rw [h1]; decide, by rcases h0 with h | h; exact .inl h; exact .inr (.inl h)⟩
    · cases hn : mayI n && mayI (a * n)
      · left; simp [mulI, ha, h0, hn]
      · right
        rw [Bool.and_eq_true] at hn
        exact ⟨mulI_ok ha (.inr (.inr hn)), rfl, hn.2, .inr (.inr hn)⟩

theorem mayI_iff {x : Int} : mayI x = true ↔ -1125899906842624 ≤ x ∧ x ≤ 1125899906842624 := by simp [mayI]

theorem half_le {a n h : Int} (ha : -1125899906842624 ≤ a * n ∧ a * n ≤ 1125899906842624) (hh : (0 ≤ h ∧ h ≤ n) ∨ (n ≤ h ∧ h ≤ 0)) : -1125899906842624 ≤ a * h ∧ a * h ≤ 1125899906842624 := by
  rcases hh with ⟨h1, h2⟩ | ⟨h1, h2⟩ <;> rcases Int.le_total 0 a with h3 | h3
  · have := Int.mul_le_mul_of_nonneg_left h2 h3; have := Int.mul_nonneg h3 h1; omega
  · have := Int.mul_le_mul_of_nonpos_left h3 h2; have := Int.mul_nonpos_of_nonpos_of_nonneg h3 h1; omega
  · have := Int.mul_le_mul_of_nonneg_left h1 h3; have := Int.mul_nonpos_of_nonneg_of_nonpos h3 h2; omega
  · have := Int.mul_le_mul_of_nonpos_left h3 h1; have := Int.mul_nonneg_of_nonpos_of_nonpos h3 h2; omega

theorem mulI_half {a n h : Int} (ha : mayI a = true) (hm : mayI (a * n) = true) (hn : a = 0 ∨ n = 0 ∨ (mayI n = true ∧ mayI (a * n) = true)) (hh : (0 ≤ h ∧ h ≤ n) ∨ (n ≤ h ∧ h ≤ 0)) :
    mulI a h = (a * h, 0) ∧ mulI a (n - h) = (a * (n - h), 0) ∧ addI (a * h) (a * (n - h)) = (a * n, 0) := by
  have b1 := half_le (mayI_iff.1 hm) hh
  have b2 := half_le (mayI_iff.1 hm) (h := n - h) (by omega)
  have e : a * h + a * (n - h) = a * n := by rw [← Int.mul_add]; congr 1; omega
  refine ⟨mulI_ok ha ?_, mulI_ok ha ?_, ?_⟩
  · rcases hn with h1 | rfl | ⟨h1, _⟩
    · exact .inl h1
    · exact .inr (.inl (by omega))
    · have := mayI_iff.1 h1; exact .inr (.inr ⟨mayI_iff.2 (by omega), mayI_iff.2 b1⟩)
  · rcases hn with h1 | rfl | ⟨h1, _⟩
    · exact .inl h1
    · exact .inr (.inl (by omega))
    · have := mayI_iff.1 h1; exact .inr (.inr ⟨mayI_iff.2 (by omega), mayI_iff.2 b2⟩)
  · unfold addI; rw [e, mayI_iff.2 b1, mayI_iff.2 b2, hm]; rfl

theorem sign_facts (a n : Int) : (a = 0 ∧ a * n = 0) ∨ (n = 0 ∧ a * n = 0) ∨ (0 < a ∧ 0 < n ∧ 0 < a * n) ∨ (a < 0 ∧ n < 0 ∧ 0 < a * n) ∨ (0 < a ∧ n < 0 ∧ a * n < 0) ∨ (a < 0 ∧ 0 < n ∧ a * n < 0) := by
  rcases Int.lt_trichotomy a 0 with h | rfl | h <;> rcases Int.lt_trichotomy n 0 with k | rfl | k
  · have := Int.mul_pos_of_neg_of_neg h k; omega
  · simp
  · have := Int.mul_neg_of_neg_of_pos h k; omega
  · simp
  · simp
  · simp
  · have := Int.mul_neg_of_pos_of_neg h k; omega
  · simp
  · have := Int.mul_pos h k; omega

set_option maxRecDepth 100000 in
set_option maxHeartbeats 4000000 in
theorem back_any (a b n : Int) (w : World) (ha1 : -9223372036854775808 ≤ a) (ha2 : a ≤ 9223372036854775807) (hn1 : -9223372036854775808 ≤ n) (hn2 : n ≤ 9223372036854775807) :
    Calls Try.prog 10 #[.int .i64 a, .int .i64 b, .int .i64 n] w fun e w' => e = .returned (.bool true) ∧ Below w.heap.size w w' := by
  have hadd : Hid ((addI a b = (0, 7) ∧ addI b a = (0, 7)) ∨ (addI a b = (a + b, 0) ∧ addI b a = (a + b, 0) ∧ subI (a + b) b = (a, 0) ∧ errI (a + b) = 0 ∧ -1125899906842624 ≤ a ∧ a ≤ 1125899906842624 ∧ -1125899906842624 ≤ b ∧ b ≤ 1125899906842624)) := by
    rcases addI_cases a b with ⟨h0, q1, q2, q3, h1⟩ | ⟨h0, h1, -⟩
    · right
      have e : addI a b = (a + b, 0) := Prod.ext h1 h0
      have : a + b - b = a := by omega
      have c1 := mayI_iff.1 q1
      have c2 := mayI_iff.1 q2
      exact ⟨e, (addI_comm b a).trans e, by simp [subI, this, q1, q2, q3], by simp [errI, q3], c1.1, c1.2, c2.1, c2.2⟩
    · left
      have e : addI a b = (0, 7) := Prod.ext h1 h0
      exact ⟨e, (addI_comm b a).trans e⟩
  obtain ⟨h, hh⟩ : ∃ h, h = n.tdiv 2 := ⟨_, rfl⟩
  have hb : (0 ≤ h ∧ h ≤ n) ∨ (n ≤ h ∧ h ≤ 0) := by
    rcases Int.le_total 0 n with h1 | h1
    · left; rw [hh, Int.tdiv_eq_ediv_of_nonneg h1]; omega
    · right
      have e : n.tdiv 2 = -((-n) / 2) := by rw [← Int.tdiv_eq_ediv_of_nonneg (by omega), Int.neg_tdiv]; omega
      rw [hh, e]; omega
  have Hb := hid hb
  have hh' := hh.symm
  clear hh hb
  have HH := hid hh'
  clear hh'
  go_enter Try.func10, Try.ntmps10
  go_wp2_with fail
  refine (add_any _ _ _).mono ?_
  rintro e w1 ⟨rfl, k1⟩
  go_wp2_with fail
  refine (add_any _ _ _).mono ?_
  rintro e w2 ⟨rfl, k2⟩
  have k12 := bt k1 k2
  clear k1 k2
  go_upto_region 3 with fail
  go_cut [7, 8, 9, 10, 48] (fun s7 s8 _ _ s wx => s = .bool false ∧ wx = w2 ∧ s7 = .int .i64 (addI a b).1 ∧ s8 = .int .i64 (addI a b).2)
  case first =>
    rcases hadd.out with ⟨e1, e2⟩ | ⟨e1, e2, -⟩
    · go_wp2_with fail
      all_goals go_meet
      all_goals (case rel => exact ⟨rfl, rfl, by rw [e1], by rw [e1]⟩)
    · go_wp2_with fail
      all_goals go_meet
      all_goals (case rel => exact ⟨rfl, rfl, by rw [e1], by rw [e1]⟩)
  case rest =>
  obtain ⟨rfl, rfl, rfl, rfl⟩ := hcut
  go_upto_if 50 with fail
  go_cut [7, 8, 9, 10, 11, 12] (fun _ _ _ _ _ _ wx => Below w.heap.size w wx)
  case first =>
    rcases hadd.out with ⟨e1, e2⟩ | ⟨e1, e2, e3, e4, b1, b2, b3, b4⟩
    · have e0 : ((addI a b).2 == 0) = false := by rw [e1]; rfl
      go_wp2_with fail
      all_goals go_meet
      all_goals (case rel => exact k12)
    · have e0 : ((addI a b).2 == 0) = true := by rw [e1]; rfl
      go_wp2_with fail
      refine (sub_any _ _ _).mono ?_
      rintro e w3 ⟨rfl, k3⟩
      go_wp2_with fail
      refine (check_any _ _).mono ?_
      rintro e w4 ⟨rfl, k4⟩
      go_wp2_with fail
      all_goals go_meet
      all_goals (case rel => exact bt (bt k12 k3) k4)
  case rest =>
  clear k12
  have k0 := hcut
  clear hcut
  go_wp2_with fail
  refine (mul_any _ _ _ ha1 ha2 hn1 hn2).mono ?_
  rintro e w3 ⟨rfl, k3⟩
  rcases mulI_cases a n with hm | ⟨hm, m1, m2, m3⟩
  · go_wp2_with fail
    refine (wakes5 _).mono ?_
    rintro e w4 ⟨rfl, k4⟩
    go_wp2
    go_ret
    exact ⟨rfl, bt (bt k0 k3) k4⟩
  · have hb := Hb.out
    obtain ⟨f1, f2, f3⟩ := mulI_half m1 m2 m3 hb
    have f4 : errI (a * n) = 0 := by simp [errI, m2]
    have hs := sign_facts a n
    have f7 : -9223372036854775808 ≤ n - h ∧ n - h ≤ 9223372036854775807 := by omega
    have f8 : -9223372036854775808 ≤ h ∧ h ≤ 9223372036854775807 := by omega
    have hh' := HH.out
    clear m1 m2 m3 hb
    generalize a * n = p at *
    generalize a * h = u at *
    generalize a * (n - h) = v at *
    have Hs := hid hs
    clear hs
    go_wp2_with fail
    refine (mul_any _ _ _ ha1 ha2 (by omega) (by omega)).mono ?_
    rintro e w4 ⟨rfl, k4⟩
    go_wp2_with fail
    refine (mul_any _ _ _ ha1 ha2 (by omega) (by omega)).mono ?_
    rintro e w5 ⟨rfl, k5⟩
    go_wp2_with fail
    refine (add_any _ _ _).mono ?_
    rintro e w6 ⟨rfl, k6⟩
    go_wp2_with fail
    refine (check_any _ _).mono ?_
    rintro e w7 ⟨rfl, k7⟩
    have hsign : ((p == 0) = true ∧ ((a == 0) = true)) ∨ ((p == 0) = true ∧ (a == 0) = false ∧ ((n == 0) = true)) ∨ ((p == 0) = false ∧ (a == 0) = false ∧ (n == 0) = false ∧ ((decide (0 < p)) = (decide (0 < a) == decide (0 < n)))) := by
      rcases Hs.out with h | h | h | h | h | h
      · left; simp [h]
      · by_cases ha : a = 0
        · left; simp [h, ha]
        · right; left; simp [h, ha]
      · right; right; refine ⟨by simp; omega, by simp; omega, by simp; omega, ?_⟩; simp [h]
      · right; right; refine ⟨by simp; omega, by simp; omega, by simp; omega, ?_⟩; simp [h]; omega
      · right; right; refine ⟨by simp; omega, by simp; omega, by simp; omega, ?_⟩; simp [h]; omega
      · right; right; refine ⟨by simp; omega, by simp; omega, by simp; omega, ?_⟩; simp [h]; omega
    rcases hsign with ⟨g1, g2⟩ | ⟨g1, g2, g3⟩ | ⟨g1, g2, g3, g4⟩
    all_goals
      go_wp2_with fail
      refine (wakes5 _).mono ?_
      rintro e w8 ⟨rfl, k8⟩
      go_wp2
      go_ret
      exact ⟨rfl, bt (bt (bt (bt (bt (bt k0 k3) k4) k5) k6) k7) k8⟩

theorem back_walk (a b n : Int) (w : World) (wa : (Lit.int .i64 a).wf = true) (_wb : (Lit.int .i64 b).wf = true) (wn : (Lit.int .i64 n).wf = true) :
    Calls Try.prog 10 #[.int .i64 a, .int .i64 b, .int .i64 n] w fun e w' => e = .returned (.bool true) ∧ Below w.heap.size w w' :=
  back_any a b n w (wf64 wa).1 (wf64 wa).2 (wf64 wn).1 (wf64 wn).2
end Go.Proofs.Ytgikoobngohdnaa
