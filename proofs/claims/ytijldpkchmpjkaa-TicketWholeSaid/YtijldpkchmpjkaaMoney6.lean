/- MONEY 6: the document long division. -/
import Derived.Test.YtijldpkchmpjkaaRows
import Derived.Test.YtijldpkchmpjkaaMoney5
namespace Go.Proofs.Ytijldpkchmpjkaa
open Go.RowKit Go.Lib Go.Tk
set_option maxHeartbeats 400000 in
theorem rpart_bad (a n f : Int) (w : World) (h : ¬ PartOk a n f) :
    Calls Try.prog 37 #[.int .i64 a, .int .i64 n, .int .i64 f] w fun e w' => e = .returned (.tuple #[.int .i64 (partW a n f), .int .i64 (partR a n f), .int .i64 (partE a n f)]) ∧ w = w' := by
  have F := hid (part_no h)
  by_cases h1 : a < 0
  · go_enter Try.func37, Try.ntmps37
    go_wp2
    go_ret3
    exact ⟨F.out, rfl⟩
  cases h2 : mayI a
  · go_enter Try.func37, Try.ntmps37
    go_wp2_with (go_at_call 36; refine (rmay_any _ _).mono ?_; rintro e w' ⟨rfl, rfl⟩)
    go_ret3
    exact ⟨F.out, rfl⟩
  obtain ⟨_, h2'⟩ := mayI_of h2
  have h3 : n < 0 ∨ (0 ≤ n ∧ f < 1) ∨ (0 ≤ n ∧ 1 ≤ f ∧ f < n) ∨ (0 ≤ n ∧ 1 ≤ f ∧ n ≤ f ∧ 1099511627776 < f) := by unfold PartOk at h; omega
  clear h
  rcases h3 with h3 | ⟨h3, h4⟩ | ⟨h3, h4, h5⟩ | ⟨h3, h4, h5, h6⟩
  all_goals
    go_enter Try.func37, Try.ntmps37
    go_wp2_with (go_at_call 36; refine (rmay_any _ _).mono ?_; rintro e w' ⟨rfl, rfl⟩)
    go_ret3
    exact ⟨F.out, rfl⟩

/-- long division bit by bit: what holds when the j lowest bits are still to come -/
def LongAt (a n f : Int) (j : Nat) (W R : Int) : Prop := W * f + R = a / 2 ^ j * n ∧ 0 ≤ R ∧ R < f

theorem long_le {a n f : Int} {j : Nat} {W R : Int} (h : W * f + R = a / 2 ^ j * n) (hR : 0 ≤ R) (hok : PartOk a n f) : W ≤ a := by
  obtain ⟨h1, h2, h3, h4, h5, h6⟩ := hok
  have hp : (0 : Int) < 2 ^ j := Int.pow_pos (by decide)
  have k1 : a / 2 ^ j ≤ a := Int.ediv_le_self _ h1
  have k2 : a / 2 ^ j * n ≤ a * f := Int.le_trans (Int.mul_le_mul_of_nonneg_right k1 h3) (Int.mul_le_mul_of_nonneg_left h5 h1)
  have k3 : W * f ≤ a * f := by omega
  exact Int.le_of_mul_le_mul_right k3 (by omega)

theorem and1 (x : Int) (h0 : 0 ≤ x) (h1 : x < 4611686018427387904) : bits .and .i64 x 1 = x % 2 :=
  bits_mask .i64 62 (by decide) wraps_i64 1 (by decide) x h0 h1

theorem long_bit {a : Int} {i : Nat} : a / 2 ^ i = a / 2 ^ (i + 1) * 2 + a / 2 ^ i % 2 := by
  have : a / 2 ^ (i + 1) = a / 2 ^ i / 2 := by rw [Int.pow_succ, Int.ediv_ediv_of_nonneg (Int.le_of_lt (Int.pow_pos (by decide)))]
  omega

set_option maxHeartbeats 1000000 in
theorem rpart_good (a n f : Int) (w : World) (h : PartOk a n f) :
    Calls Try.prog 37 #[.int .i64 a, .int .i64 n, .int .i64 f] w fun e w' => e = .returned (.tuple #[.int .i64 (partW a n f), .int .i64 (partR a n f), .int .i64 (partE a n f)]) ∧ w = w' := by
  have H := hid h
  obtain ⟨h1, h2, h3, h4, h5, h6⟩ := h
  have hm : mayI a = true := by simp [mayI]; omega
  go_enter Try.func37, Try.ntmps37
  go_wp2_with (go_at_call 36; refine (rmay_any _ _).mono ?_; rintro e w' ⟨rfl, rfl⟩)
  go_loop [9, 10, 11] (fun x y z => ∃ (j : Nat) (W R : Int), j ≤ 51 ∧ z = .int .i64 ((j : Int) - 1) ∧ x = .int .i64 W ∧ y = .int .i64 R ∧ 0 ≤ W ∧ Hid (LongAt a n f j W R)) (fun _ _ z => (intOf z + 1).toNat)
  case atStart => exact ⟨51, 0, 0, by omega, rfl, rfl, rfl, by omega, hid ⟨by rw [show a / 2 ^ 51 = 0 by omega]; omega, by omega, by omega⟩⟩
  case round =>
    obtain ⟨j, W, R, hj, rfl, rfl, rfl, hW, hL⟩ := hrel
    obtain ⟨-, hR0, hR1⟩ := hL.out
    have hWa := long_le hL.out.1 hR0 H.out
    cases j with
    | zero =>
      have L := hL.out
      clear hL
      have e1 : W = a * n / f := by
        have h := L.1
        rw [Int.pow_zero, Int.ediv_one] at h
        rw [← h, Int.add_comm, Int.add_mul_ediv_right _ _ (by omega), Int.ediv_eq_zero_of_lt hR0 hR1]; omega
      have e2 : R = a * n % f := by
        have h := L.1
        rw [Int.pow_zero, Int.ediv_one] at h
        rw [← h, Int.add_comm, Int.add_mul_emod_self_right, Int.emod_eq_of_lt hR0 hR1]
      have E1 := hid e1
      have E2 := hid e2
      clear e1 e2 L
      go_wp2
      go_ret3
      exact ⟨ret_i3 (by rw [partW, if_pos H.out, E1.out]) (by rw [partR, if_pos H.out, E2.out]) (by rw [partE, if_pos H.out]), rfl⟩
    | succ i =>
      simp only [Int.natCast_add, Int.cast_ofNat_Int, Int.add_sub_cancel]
      have hp : (0 : Int) < 2 ^ i := Int.pow_pos (by decide)
      have ha0 : 0 ≤ a / 2 ^ i := Int.ediv_nonneg h1 (by omega)
      have ha1 : a / 2 ^ i ≤ a := Int.ediv_le_self _ h1
      have hb := long_bit (a := a) (i := i)
      have he := and1 (a / 2 ^ i) ha0 (by omega)
      have L1 := hL.out.1
      have hb2 : a / 2 ^ i % 2 = 1 ∨ a / 2 ^ i % 2 = 0 := by omega
      have hj' : i ≤ 50 := by omega
      rcases hb2 with hb2 | hb2
      · have hc : (bits BinOp.and IntKind.i64 (a / 2 ^ i) 1 == 1) = true := by rw [he, hb2]; rfl
        have hE : Hid (W * 2 * f + (R * 2 + n) = a / 2 ^ i * n) := by
          unfold Hid
          rw [hb, hb2, Int.add_mul, Int.one_mul, Int.mul_right_comm, Int.mul_right_comm _ 2 n, ← L1]; omega
        clear hb he hb2 hL L1
        go_wp2
        go_loop [9, 10] (fun x y => ∃ (U T : Int), x = .int .i64 U ∧ y = .int .i64 T ∧ 0 ≤ U ∧ 0 ≤ T ∧ T ≤ 3298534883328 ∧ Hid (U * f + T = a / 2 ^ i * n)) (fun _ y => (intOf y).toNat)
        case atStart => exact ⟨_, _, rfl, rfl, by omega, by omega, by omega, hE⟩
        case round =>
          obtain ⟨U, T, rfl, rfl, hU, hT0, hT1, hUT⟩ := hrel
          have hUa := long_le hUT.out hT0 H.out
          by_cases hTf : f ≤ T
          · go_wp2
            go_round
            case rel => exact ⟨_, _, rfl, rfl, by omega, by omega, by omega, hid (by rw [Int.add_mul, Int.one_mul, ← hUT.out]; omega)⟩
            case measure => simp [intOf]; omega
          · have hL' : Hid (LongAt a n f i U T) := ⟨hUT.out, hT0, by omega⟩
            go_wp2
            go_round
            case rel => exact ⟨i, _, _, by omega, rfl, rfl, rfl, hU, hL'⟩
            case measure => simp [intOf]
      · have hc : (bits BinOp.and IntKind.i64 (a / 2 ^ i) 1 == 1) = false := by rw [he, hb2]; rfl
        have hE : Hid (W * 2 * f + R * 2 = a / 2 ^ i * n) := by
          unfold Hid
          rw [hb, hb2, Int.add_zero, Int.mul_right_comm, Int.mul_right_comm _ 2 n, ← L1]; omega
        clear hb he hb2 hL L1
        go_wp2
        go_loop [9, 10] (fun x y => ∃ (U T : Int), x = .int .i64 U ∧ y = .int .i64 T ∧ 0 ≤ U ∧ 0 ≤ T ∧ T ≤ 3298534883328 ∧ Hid (U * f + T = a / 2 ^ i * n)) (fun _ y => (intOf y).toNat)
        case atStart => exact ⟨_, _, rfl, rfl, by omega, by omega, by omega, hE⟩
        case round =>
          obtain ⟨U, T, rfl, rfl, hU, hT0, hT1, hUT⟩ := hrel
          have hUa := long_le hUT.out hT0 H.out
          by_cases hTf : f ≤ T
          · go_wp2
            go_round
            case rel => exact ⟨_, _, rfl, rfl, by omega, by omega, by omega, hid (by rw [Int.add_mul, Int.one_mul, ← hUT.out]; omega)⟩
            case measure => simp [intOf]; omega
          · have hL' : Hid (LongAt a n f i U T) := ⟨hUT.out, hT0, by omega⟩
            go_wp2
            go_round
            case rel => exact ⟨i, _, _, by omega, rfl, rfl, rfl, hU, hL'⟩
            case measure => simp [intOf]
end Go.Proofs.Ytijldpkchmpjkaa
