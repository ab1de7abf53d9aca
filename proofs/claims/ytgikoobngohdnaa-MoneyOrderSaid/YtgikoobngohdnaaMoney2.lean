/- MONEY 2: the sum and the product. -/
import Derived.Test.YtgikoobngohdnaaRows
import Derived.Test.YtgikoobngohdnaaMoney1
namespace Go.Proofs.Ytgikoobngohdnaa
open Go.RowKit Go.Lib Go.Tk
theorem sumFrom_no {s x : Int} {r : List Int} (h : (addI s x).2 ≠ 0) : sumFrom s (x :: r) = (0, 7) := by rw [sumFrom, if_neg h]

set_option maxHeartbeats 400000 in
theorem rsum_any (a : Option Addr) (cap : Nat) (xs : List Int) (w : World) (hr : Row w a (xs.map (.int .i64))) (hm : xs.length ≤ 9223372036854775807) :
    Calls Try.prog 25 #[.slice a xs.length cap] w fun e w' => e = .returned (.tuple #[.int .i64 (sumFrom 0 xs).1, .int .i64 (sumFrom 0 xs).2]) ∧ w = w' := by
  have Hr := hid hr
  clear hr
  go_enter Try.func25, Try.ntmps25
  go_wp2
  go_loop [4, 5] (fun s i => ∃ (k : Nat) (x : Int), k ≤ xs.length ∧ i = .int .i64 k ∧ s = .int .i64 x ∧ Hid (sumFrom 0 xs = sumFrom x (xs.drop k)) ∧ Hid (mayI x = true)) (fun _ i => xs.length - (intOf i).toNat)
  case atStart => exact ⟨0, 0, Nat.zero_le _, rfl, rfl, hid rfl, hid (by decide)⟩
  case round =>
    obtain ⟨k, s, hk, rfl, rfl, hs, hms⟩ := hrel
    obtain ⟨hs1, hs2⟩ := mayI_of hms.out
    by_cases hlt : k < xs.length
    · obtain ⟨b, off, rfl, hc⟩ := Hr.out.int k hlt
      generalize hx : xs.getD k 0 = x at *
      have HX := hid hx
      clear hx
      cases h1 : mayI x
      · have H1 := hid h1
        go_wp2_with (go_at_call 40; refine (rmay_any _ _).mono ?_; rintro e w' ⟨rfl, rfl⟩)
        go_ret2
        exact ⟨ret_i2 (sum_stop hlt HX.out hs.out (by simp [addI, H1.out])).symm, rfl⟩
      · have H1 := hid h1
        obtain ⟨hx1, hx2⟩ := mayI_of h1
        cases h2 : mayI (s + x)
        · have H2 := hid h2
          go_wp2_with (go_at_call 40; refine (rmay_any _ _).mono ?_; rintro e w' ⟨rfl, rfl⟩)
          go_ret2
          exact ⟨ret_i2 (sum_stop hlt HX.out hs.out (by simp [addI, H2.out])).symm, rfl⟩
        · have H2 := hid h2
          go_wp2_with (go_at_call 40; refine (rmay_any _ _).mono ?_; rintro e w' ⟨rfl, rfl⟩)
          go_round
          case rel =>
            have h3 : addI s x = (s + x, 0) := by simp [addI, H1.out, H2.out, hms.out]
            exact ⟨k + 1, _, by omega, by go_num, rfl, hid (by rw [sum_step hlt HX.out hs.out (by rw [h3]), h3]), H2⟩
          case measure => simp [intOf]; omega
    · obtain rfl : k = xs.length := by omega
      go_wp2
      go_ret2
      exact ⟨ret_i2 (by rw [hs.out, List.drop_length]; rfl), rfl⟩

/-- the product, if it may be -/
def mulI (a n : Int) : Int × Int :=
  if mayI a then if a = 0 ∨ n = 0 then (0, 0) else if mayI n && mayI (a * n) then (a * n, 0) else (0, 7) else (0, 7)

theorem mul_bound {a n : Int} (ha : a ≠ 0) : (n.natAbs : Int) ≤ 1125899906842624 / (a.natAbs : Int) ↔ mayI (a * n) = true := by
  have hp : (0 : Int) < a.natAbs := by omega
  rw [Int.le_ediv_iff_mul_le hp]
  have : ((n.natAbs : Int) * a.natAbs) = ((a * n).natAbs : Int) := by rw [Int.natAbs_mul, Nat.mul_comm]; simp
  rw [this]
  simp only [mayI, Bool.and_eq_true, decide_eq_true_eq]
  omega

set_option maxHeartbeats 400000 in
theorem mul_any (a n : Int) (w : World) (ha1 : -9223372036854775808 ≤ a) (ha2 : a ≤ 9223372036854775807) (hn1 : -9223372036854775808 ≤ n) (hn2 : n ≤ 9223372036854775807) :
    Calls Try.prog 31 #[.int .i64 a, .int .i64 n] w fun e w' => e = .returned (.tuple #[.int .i64 (mulI a n).1, .int .i64 (mulI a n).2]) ∧ Below w.heap.size w w' := by
  have hb : Below w.heap.size w (w.alloc (.cells #[.int .i64 a] 2)) := (Below.refl _ _).alloc (Nat.le_refl _) _
  have hb2 : Below w.heap.size w ((w.alloc (.cells #[.int .i64 a] 2)).alloc (.cells #[.int .i64 n] 2)) := hb.alloc (by simp) _
  cases h1 : mayI a
  · go_enter Try.func31, Try.ntmps31
    go_wp2_with (go_at_call 38; refine (may_any _ _ [a] _ row_lit (by simp)).mono ?_; rintro e w' ⟨rfl, rfl⟩)
    go_ret2
    exact ⟨ret_i2 (by simp [mulI, h1]), hb⟩
  by_cases ha : a = 0
  · subst ha
    go_enter Try.func31, Try.ntmps31
    go_wp2_with (go_at_call 38; refine (may_any _ _ [0] _ row_lit (by simp)).mono ?_; rintro e w' ⟨rfl, rfl⟩)
    go_ret2
    exact ⟨ret_i2 (by simp [mulI, h1]), hb⟩
  have ha' : (a == 0) = false := by simpa using ha
  by_cases hn : n = 0
  · subst hn
    go_enter Try.func31, Try.ntmps31
    go_wp2_with (go_at_call 38; refine (may_any _ _ [a] _ row_lit (by simp)).mono ?_; rintro e w' ⟨rfl, rfl⟩)
    go_ret2
    exact ⟨ret_i2 (by simp [mulI, h1]), hb⟩
  have hn' : (n == 0) = false := by simpa using hn
  have h3 := mul_bound (n := n) ha
  have hmx : ∀ z : Int, max z (-z) = (z.natAbs : Int) := fun z => by omega
  have Hx := hid hmx
  obtain ⟨a1, a2⟩ := mayI_of h1
  clear hmx
  cases h2 : mayI n
  · go_enter Try.func31, Try.ntmps31
    go_wp2_with fail
    refine (may_any _ _ [a] _ row_lit (by simp)).mono ?_
    rintro e w' ⟨rfl, rfl⟩
    go_wp2_with fail
    refine (may_any _ _ [n] _ (row_new (by simp)) (by simp)).mono ?_
    rintro e w' ⟨rfl, rfl⟩
    go_wp2
    go_ret2
    exact ⟨ret_i2 (by simp [mulI, h1, h2, ha, hn]), hb2⟩
  obtain ⟨n1, n2⟩ := mayI_of h2
  have h1' := hid h1
  have h2' := hid h2
  clear Hx ha' hn'
  have sa : a < 0 ∨ 0 < a := by omega
  have sn : n < 0 ∨ 0 < n := by omega
  have key : (mayI (a * n) = false ∧ 1125899906842624 / (a.natAbs : Int) < (n.natAbs : Int)) ∨ (mayI (a * n) = true ∧ (n.natAbs : Int) ≤ 1125899906842624 / (a.natAbs : Int) ∧ -1125899906842624 ≤ a * n ∧ a * n ≤ 1125899906842624) := by
    cases h5 : mayI (a * n)
    · left; refine ⟨rfl, ?_⟩; rw [h5] at h3; have := fun h => Bool.false_ne_true (h3.1 h); exact Int.not_le.1 this
    · right; exact ⟨rfl, h3.2 h5, mayI_of h5⟩
  have fin0 : mayI (a * n) = false → mulI a n = (0, 7) := fun h => by simp [mulI, h1, h2, h, ha, hn]
  have fin1 : mayI (a * n) = true → mulI a n = (a * n, 0) := fun h => by simp [mulI, h1, h2, h, ha, hn]
  clear h3 hn hn1 hn2 ha1 ha2 hb
  rcases sa with sa | sa <;> rcases sn with sn | sn
  · obtain ⟨p, rfl⟩ : ∃ p, a = -p := ⟨-a, by omega⟩
    obtain ⟨q, rfl⟩ : ∃ q, n = -q := ⟨-n, by omega⟩
    rw [show ((-p).natAbs : Int) = p by omega] at key
    rw [show ((-q).natAbs : Int) = q by omega] at key
    simp only [Int.neg_mul, Int.mul_neg, Int.neg_neg] at key fin0 fin1
    have ha' : ((-p) == 0) = false := by simp; omega
    have hn' : ((-q) == 0) = false := by simp; omega
    rcases key with ⟨h5, h4⟩ | ⟨h5, h4, m1, m2⟩
    · have F := hid (fin0 h5)
      clear h5 fin0 fin1
      go_enter Try.func31, Try.ntmps31
      go_wp2_with fail
      refine (may_any _ _ [-p] _ row_lit (by simp)).mono ?_
      rintro e w' ⟨rfl, rfl⟩
      go_wp2_with fail
      refine (may_any _ _ [-q] _ (row_new (by simp)) (by simp)).mono ?_
      rintro e w' ⟨rfl, rfl⟩
      go_wp2
      go_ret2
      exact ⟨ret_i2 (by rw [F.out]), hb2⟩
    · have F := hid (fin1 h5)
      clear h5 fin0 fin1
      go_enter Try.func31, Try.ntmps31
      go_wp2_with fail
      refine (may_any _ _ [-p] _ row_lit (by simp)).mono ?_
      rintro e w' ⟨rfl, rfl⟩
      go_wp2_with fail
      refine (may_any _ _ [-q] _ (row_new (by simp)) (by simp)).mono ?_
      rintro e w' ⟨rfl, rfl⟩
      go_wp2
      go_ret2
      exact ⟨ret_i2 (by first | (rw [F.out]; done) | (rw [F.out, Int.neg_mul_neg, IntWalk.wrap64_in _ ⟨by omega, by omega⟩]) | (rw [F.out, Int.neg_mul, IntWalk.wrap64_in _ ⟨by omega, by omega⟩]) | (rw [F.out, Int.mul_neg, IntWalk.wrap64_in _ ⟨by omega, by omega⟩])), hb2⟩
  · obtain ⟨p, rfl⟩ : ∃ p, a = -p := ⟨-a, by omega⟩
    skip
    rw [show ((-p).natAbs : Int) = p by omega] at key
    rw [show (n.natAbs : Int) = n by omega] at key
    simp only [Int.neg_mul] at key fin0 fin1
    have ha' : ((-p) == 0) = false := by simp; omega
    have hn' : (n == 0) = false := by simp; omega
    rcases key with ⟨h5, h4⟩ | ⟨h5, h4, m1, m2⟩
    · have F := hid (fin0 h5)
      clear h5 fin0 fin1
      go_enter Try.func31, Try.ntmps31
      go_wp2_with fail
      refine (may_any _ _ [-p] _ row_lit (by simp)).mono ?_
      rintro e w' ⟨rfl, rfl⟩
      go_wp2_with fail
      refine (may_any _ _ [n] _ (row_new (by simp)) (by simp)).mono ?_
      rintro e w' ⟨rfl, rfl⟩
      go_wp2
      go_ret2
      exact ⟨ret_i2 (by rw [F.out]), hb2⟩
    · have F := hid (fin1 h5)
      clear h5 fin0 fin1
      go_enter Try.func31, Try.ntmps31
      go_wp2_with fail
      refine (may_any _ _ [-p] _ row_lit (by simp)).mono ?_
      rintro e w' ⟨rfl, rfl⟩
      go_wp2_with fail
      refine (may_any _ _ [n] _ (row_new (by simp)) (by simp)).mono ?_
      rintro e w' ⟨rfl, rfl⟩
      go_wp2
      go_ret2
      exact ⟨ret_i2 (by first | (rw [F.out]; done) | (rw [F.out, Int.neg_mul_neg, IntWalk.wrap64_in _ ⟨by omega, by omega⟩]) | (rw [F.out, Int.neg_mul, IntWalk.wrap64_in _ ⟨by omega, by omega⟩]) | (rw [F.out, Int.mul_neg, IntWalk.wrap64_in _ ⟨by omega, by omega⟩])), hb2⟩
  · skip
    obtain ⟨q, rfl⟩ : ∃ q, n = -q := ⟨-n, by omega⟩
    rw [show (a.natAbs : Int) = a by omega] at key
    rw [show ((-q).natAbs : Int) = q by omega] at key
    simp only [Int.mul_neg] at key fin0 fin1
    have ha' : (a == 0) = false := by simp; omega
    have hn' : ((-q) == 0) = false := by simp; omega
    rcases key with ⟨h5, h4⟩ | ⟨h5, h4, m1, m2⟩
    · have F := hid (fin0 h5)
      clear h5 fin0 fin1
      go_enter Try.func31, Try.ntmps31
      go_wp2_with fail
      refine (may_any _ _ [a] _ row_lit (by simp)).mono ?_
      rintro e w' ⟨rfl, rfl⟩
      go_wp2_with fail
      refine (may_any _ _ [-q] _ (row_new (by simp)) (by simp)).mono ?_
      rintro e w' ⟨rfl, rfl⟩
      go_wp2
      go_ret2
      exact ⟨ret_i2 (by rw [F.out]), hb2⟩
    · have F := hid (fin1 h5)
      clear h5 fin0 fin1
      go_enter Try.func31, Try.ntmps31
      go_wp2_with fail
      refine (may_any _ _ [a] _ row_lit (by simp)).mono ?_
      rintro e w' ⟨rfl, rfl⟩
      go_wp2_with fail
      refine (may_any _ _ [-q] _ (row_new (by simp)) (by simp)).mono ?_
      rintro e w' ⟨rfl, rfl⟩
      go_wp2
      go_ret2
      exact ⟨ret_i2 (by first | (rw [F.out]; done) | (rw [F.out, Int.neg_mul_neg, IntWalk.wrap64_in _ ⟨by omega, by omega⟩]) | (rw [F.out, Int.neg_mul, IntWalk.wrap64_in _ ⟨by omega, by omega⟩]) | (rw [F.out, Int.mul_neg, IntWalk.wrap64_in _ ⟨by omega, by omega⟩])), hb2⟩
  · skip
    skip
    rw [show (a.natAbs : Int) = a by omega] at key
    rw [show (n.natAbs : Int) = n by omega] at key
    have ha' : (a == 0) = false := by simp; omega
    have hn' : (n == 0) = false := by simp; omega
    rcases key with ⟨h5, h4⟩ | ⟨h5, h4, m1, m2⟩
    · have F := hid (fin0 h5)
      clear h5 fin0 fin1
      go_enter Try.func31, Try.ntmps31
      go_wp2_with fail
      refine (may_any _ _ [a] _ row_lit (by simp)).mono ?_
      rintro e w' ⟨rfl, rfl⟩
      go_wp2_with fail
      refine (may_any _ _ [n] _ (row_new (by simp)) (by simp)).mono ?_
      rintro e w' ⟨rfl, rfl⟩
      go_wp2
      go_ret2
      exact ⟨ret_i2 (by rw [F.out]), hb2⟩
    · have F := hid (fin1 h5)
      clear h5 fin0 fin1
      go_enter Try.func31, Try.ntmps31
      go_wp2_with fail
      refine (may_any _ _ [a] _ row_lit (by simp)).mono ?_
      rintro e w' ⟨rfl, rfl⟩
      go_wp2_with fail
      refine (may_any _ _ [n] _ (row_new (by simp)) (by simp)).mono ?_
      rintro e w' ⟨rfl, rfl⟩
      go_wp2
      go_ret2
      exact ⟨ret_i2 (by first | (rw [F.out]; done) | (rw [F.out, Int.neg_mul_neg, IntWalk.wrap64_in _ ⟨by omega, by omega⟩]) | (rw [F.out, Int.neg_mul, IntWalk.wrap64_in _ ⟨by omega, by omega⟩]) | (rw [F.out, Int.mul_neg, IntWalk.wrap64_in _ ⟨by omega, by omega⟩])), hb2⟩
end Go.Proofs.Ytgikoobngohdnaa
