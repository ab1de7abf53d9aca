/- MONEY 4: the words of a product. -/
import Derived.Test.YtijldpkchmpjkaaRows
import Derived.Test.YtijldpkchmpjkaaMoney3
namespace Go.Proofs.Ytijldpkchmpjkaa
open Go.RowKit Go.Lib Go.Tk
theorem wraps_i64 (n : Int) (h₀ : 0 ≤ n) (h₁ : n < 2 ^ 62) : IntKind.i64.wrap n = n := by rw [IntKind.wrap_i64]; omega
theorem and26 (x : Int) (h0 : 0 ≤ x) (h1 : x < 4611686018427387904) : bits .and .i64 x 67108863 = x % 67108864 :=
  bits_mask .i64 62 (by decide) wraps_i64 26 (by decide) x h0 h1
theorem and13 (x : Int) (h0 : 0 ≤ x) (h1 : x < 4611686018427387904) : bits .and .i64 x 8191 = x % 8192 :=
  bits_mask .i64 62 (by decide) wraps_i64 13 (by decide) x h0 h1
theorem or13 (x y : Int) (h0 : 0 ≤ x) (hx : x % 8192 = 0) (h1 : x < 4611686018427387904) (hy0 : 0 ≤ y) (hy : y < 8192) : bits .or .i64 x y = x + y :=
  bits_join .i64 62 (by decide) wraps_i64 13 x y h0 (by omega) h1 hy0 (by omega) (by omega)

theorem idx2_0 (x0 x1 : Value) (w : World) : (Instr.index 87 (.agg #[x0, x1]) (.int .i64 0)).run Try.prog w = .ok x0 w := by kernel_rfl
theorem idx2_1 (x0 x1 : Value) (w : World) : (Instr.index 87 (.agg #[x0, x1]) (.int .i64 1)).run Try.prog w = .ok x1 w := by kernel_rfl

theorem prod_bd {x y X Y : Int} (h0 : 0 ≤ x) (h1 : x ≤ X) (h2 : 0 ≤ y) (h3 : y ≤ Y) : 0 ≤ x * y ∧ x * y ≤ X * Y :=
  ⟨Int.mul_nonneg h0 h2, Int.mul_le_mul h1 h3 h2 (by omega)⟩

/-- the four words of 26 bits of a product -/
def Words (a n p0 p1 p2 p3 : Int) : Prop :=
  (0 ≤ p0 ∧ p0 < 67108864) ∧ (0 ≤ p1 ∧ p1 < 67108864) ∧ (0 ≤ p2 ∧ p2 < 67108864) ∧ (0 ≤ p3 ∧ p3 < 67108864) ∧
  p0 + p1 * 67108864 + p2 * 4503599627370496 + p3 * 302231454903657293676544 = a * n
def HalvesPost (a n : Int) (w : World) (e : Ending) (w' : World) : Prop :=
  ∃ p0 p1 p2 p3 : Int, e = .returned (.agg #[.int .i64 p0, .int .i64 p1, .int .i64 p2, .int .i64 p3]) ∧ Words a n p0 p1 p2 p3 ∧ Below w.heap.size w w'

theorem words_of {a n x0 x1 y0 y1 s0 s1 s2 : Int} (hA : (x0 = a % 67108864 ∧ x1 = a / 67108864) ∧ y0 = n % 67108864 ∧ y1 = n / 67108864)
    (hS : s0 = x0 * y0 ∧ s1 = x0 * y1 + x1 * y0 ∧ s2 = x1 * y1) (g0 : 0 ≤ s0 ∧ s0 ≤ 4503599627370496) (g1 : 0 ≤ s1 ∧ s1 ≤ 4503599627370496) (g2 : 0 ≤ s2 ∧ s2 ≤ 274877906944) :
    Words a n (s0 % 67108864) ((s1 + s0 / 67108864) % 67108864) ((s2 + (s1 + s0 / 67108864) / 67108864) % 67108864) ((s2 + (s1 + s0 / 67108864) / 67108864) / 67108864) := by
  obtain ⟨⟨h1, h2⟩, h3, h4⟩ := hA
  obtain ⟨k0, k1, k2⟩ := hS
  refine ⟨by omega, by omega, by omega, by omega, ?_⟩
  have ea : a = x1 * 67108864 + x0 := by omega
  have en : n = y1 * 67108864 + y0 := by omega
  have e : a * n = s2 * 4503599627370496 + s1 * 67108864 + s0 := by
    rw [ea, en, k0, k1, k2]
    simp only [Int.add_mul, Int.mul_add]
    have t1 : x1 * 67108864 * (y1 * 67108864) = x1 * y1 * 4503599627370496 := by
      rw [Int.mul_assoc, Int.mul_left_comm 67108864, ← Int.mul_assoc, ← Int.mul_assoc, Int.mul_assoc _ _ 67108864]; rfl
    have t2 : x1 * 67108864 * y0 = x1 * y0 * 67108864 := by rw [Int.mul_right_comm]
    have t3 : x0 * (y1 * 67108864) = x0 * y1 * 67108864 := by rw [Int.mul_assoc]
    rw [t1, t2, t3]; omega
  rw [e]; omega

set_option maxHeartbeats 1000000 in
theorem halves_any (a n : Int) (w : World) (a0 : 0 ≤ a) (a1 : a ≤ 1125899906842624) (n0 : 0 ≤ n) (n1 : n ≤ 1099511627776) :
    Calls Try.prog 40 #[.int .i64 a, .int .i64 n] w (HalvesPost a n w) := by
  have e1 := and26 a a0 (by omega)
  have e2 := and26 n n0 (by omega)
  obtain ⟨x0, hx0⟩ : ∃ x, x = a % 67108864 := ⟨_, rfl⟩
  obtain ⟨x1, hx1⟩ : ∃ x, x = a / 67108864 := ⟨_, rfl⟩
  obtain ⟨y0, hy0⟩ : ∃ x, x = n % 67108864 := ⟨_, rfl⟩
  obtain ⟨y1, hy1⟩ : ∃ x, x = n / 67108864 := ⟨_, rfl⟩
  rw [← hx0] at e1
  rw [← hy0] at e2
  have e3 := hx1.symm
  have e4 := hy1.symm
  obtain ⟨b1, b2⟩ := prod_bd (x := x0) (X := 67108863) (y := y0) (Y := 67108863) (by omega) (by omega) (by omega) (by omega)
  obtain ⟨b3, b4⟩ := prod_bd (x := x0) (X := 67108863) (y := y1) (Y := 16384) (by omega) (by omega) (by omega) (by omega)
  obtain ⟨b5, b6⟩ := prod_bd (x := x1) (X := 16777216) (y := y0) (Y := 67108863) (by omega) (by omega) (by omega) (by omega)
  obtain ⟨b7, b8⟩ := prod_bd (x := x1) (X := 16777216) (y := y1) (Y := 16384) (by omega) (by omega) (by omega) (by omega)
  have HA := hid (And.intro (And.intro hx0 hx1) (And.intro hy0 hy1))
  clear hx0 hx1 hy0 hy1
  have i0 := idx2_0
  have i1 := idx2_1
  go_enter Try.func40, Try.ntmps40
  go_wp2
  iterate 10 ((first | (refine wp_loop_rounds 4 ?_; rw [rounds_succ]) | rw [rounds_succ]); go_wp2)
  obtain ⟨s0, hs0⟩ : ∃ x, x = x0 * y0 := ⟨_, rfl⟩
  obtain ⟨s1, hs1⟩ : ∃ x, x = x0 * y1 + x1 * y0 := ⟨_, rfl⟩
  obtain ⟨s2, hs2⟩ : ∃ x, x = x1 * y1 := ⟨_, rfl⟩
  rw [← hs0, ← hs1, ← hs2]
  have g0 : 0 ≤ s0 ∧ s0 ≤ 4503599627370496 := by omega
  have g1 : 0 ≤ s1 ∧ s1 ≤ 4503599627370496 := by omega
  have g2 : 0 ≤ s2 ∧ s2 ≤ 274877906944 := by omega
  have HS := hid (And.intro hs0 (And.intro hs1 hs2))
  clear hs0 hs1 hs2 b1 b2 b3 b4 b5 b6 b7 b8 e1 e2 e3 e4
  have m0 := and26 s0 (by omega) (by omega)
  have m1 := and26 (s1 + s0 / 67108864) (by omega) (by omega)
  have m2 := and26 (s2 + (s1 + s0 / 67108864) / 67108864) (by omega) (by omega)
  go_region
  go_wp2
  rw [rounds_succ]
  go_wp2
  go_region
  go_wp2
  rw [rounds_succ]
  go_wp2
  go_region
  go_wp2
  rw [rounds_succ]
  go_wp2
  exact bodyPost_ret (v := .agg #[.int .i64 (s0 % 67108864), .int .i64 ((s1 + s0 / 67108864) % 67108864), .int .i64 ((s2 + (s1 + s0 / 67108864) / 67108864) % 67108864), .int .i64 ((s2 + (s1 + s0 / 67108864) / 67108864) / 67108864)]) (by simp [results, Try.results40, go_sem]) rfl
    ⟨_, _, _, _, rfl, words_of HA.out HS.out g0 g1 g2, (((Below.refl _ _).alloc (Nat.le_refl _) _).alloc (by simp) _).drew.drew.drew⟩
end Go.Proofs.Ytijldpkchmpjkaa
