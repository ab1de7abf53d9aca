/- Money1, Money2, Money3, Money4, Money5. -/
import Derived.Test.YtdnaegleifhmgaaGreatRows
import Derived.Test.YtdnaegleifhmgaaGreatM642530e
import Derived.BigRegion
set_option maxRecDepth 100000
set_option linter.unusedVariables false
set_option linter.unusedSimpArgs false
set_option linter.unusedSectionVars false
section
namespace Go.Proofs.YtdnaegleifhmgaaGreat
open Go.RowKit Go.Lib Go.Tk
def mayI (x : Int) : Bool := decide (-1125899906842624 ≤ x) && decide (x ≤ 1125899906842624)
theorem all_take_succ {p : Int → Bool} {xs : List Int} {k : Nat} (h : k < xs.length) : (xs.take (k + 1)).all p = ((xs.take k).all p && p (xs.getD k 0)) := by
  rw [List.take_succ_eq_append_getElem h, List.all_append]; simp [List.getD_eq_getElem?_getD, h]
set_option maxHeartbeats 400000 in
theorem may_any (a : Option Addr) (cap : Nat) (xs : List Int) (w : World) (hr : Row w a (xs.map (.int .i64))) (hm : xs.length ≤ 9223372036854775807) :
    Calls Tryz.prog 78 #[.slice a xs.length cap] w fun e w' => e = .returned (.bool (xs.all mayI)) ∧ w = w' := by
  have Hr := hid hr
  clear hr
  go_enter Tryz.func78, Tryz.ntmps78
  go_wp2
  go_loop [7] (fun i => ∃ k : Nat, k ≤ xs.length ∧ i = .int .i64 k ∧ Hid ((xs.take k).all mayI = true)) (fun i => xs.length - (RowKit.intOf i).toNat)
  case atStart => exact ⟨0, Nat.zero_le _, rfl, hid (by simp)⟩
  case round =>
    obtain ⟨k, hk, rfl, hall⟩ := hrel
    by_cases hlt : k < xs.length
    · obtain ⟨b, off, rfl, hc⟩ := Hr.out.int k hlt
      have HT := hid (all_take_succ (p := mayI) hlt)
      generalize hx : xs.getD k 0 = x at *
      have HX := hid hx
      clear hx
      go_wp2
      all_goals first
        | (go_ret
           have h2 : xs.all mayI = false := by
             rw [← Bool.not_eq_true]; intro h
             rw [List.all_eq_true] at h
             have := h x (by rw [← HX.out, List.getD_eq_getElem?_getD, List.getElem?_eq_getElem hlt]; simp)
             simp [mayI] at this; omega
           exact ⟨ret_bool h2.symm, rfl⟩)
        | (go_round
           case rel => exact ⟨k + 1, by omega, by go_num, hid (by rw [HT.out, hall.out]; simp [mayI]; omega)⟩
           case measure => simp [RowKit.intOf]; omega)
    · obtain rfl : k = xs.length := by omega
      go_wp2
      go_ret
      exact ⟨ret_bool (by rw [← hall.out, List.take_length]), rfl⟩
theorem mayI_of {x : Int} (h : mayI x = true) : -1125899906842624 ≤ x ∧ x ≤ 1125899906842624 := by simpa [mayI] using h
def valI (x : Int) : Int := if mayI x then x else 0
def errI (x : Int) : Int := if mayI x then 0 else 7
def addI (a b : Int) : Int × Int := if mayI a && mayI b && mayI (a + b) then (a + b, 0) else (0, 7)
def subI (a b : Int) : Int × Int := if mayI a && mayI b && mayI (a - b) then (a - b, 0) else (0, 7)
set_option maxHeartbeats 400000 in
theorem told_no (x : Int) (w : World) :
    Calls Tryz.prog 77 #[.int .i64 x, .bool false] w fun e w' => e = .returned (.tuple #[.int .i64 0, .int .i64 7]) ∧ w = w' := by
  go_enter Tryz.func77, Tryz.ntmps77
  go_wp2
  go_ret2
  exact ⟨rfl, rfl⟩
set_option maxHeartbeats 400000 in
theorem told_yes (x : Int) (w : World) :
    Calls Tryz.prog 77 #[.int .i64 x, .bool true] w fun e w' => e = .returned (.tuple #[.int .i64 (valI x), .int .i64 (errI x)]) ∧ Below w.heap.size w w' := by
  have hb : Below w.heap.size w (w.alloc (.cells #[.int .i64 x] 2)) := (Below.refl _ _).alloc (Nat.le_refl _) _
  cases hx : mayI x
  all_goals
    go_enter Tryz.func77, Tryz.ntmps77
    go_wp2_with (go_at_call 78; refine (may_any _ _ [x] _ row_lit (by simp)).mono ?_; rintro e w' ⟨rfl, rfl⟩)
    go_ret2
    exact ⟨ret_i2 (by simp [valI, errI, hx]), hb⟩
set_option maxHeartbeats 400000 in
theorem check_any (x : Int) (w : World) :
    Calls Tryz.prog 154 #[.int .i64 x] w fun e w' => e = .returned (.int .i64 (errI x)) ∧ Below w.heap.size w w' := by
  go_enter Tryz.func154, Tryz.ntmps154
  go_wp2_with (go_at_call 77; refine (told_yes _ _).mono ?_; rintro e w' ⟨rfl, hb⟩)
  go_ret
  exact ⟨rfl, hb⟩
set_option maxHeartbeats 400000 in
theorem add_any (a b : Int) (w : World) :
    Calls Tryz.prog 76 #[.int .i64 a, .int .i64 b] w fun e w' => e = .returned (.tuple #[.int .i64 (addI a b).1, .int .i64 (addI a b).2]) ∧ Below w.heap.size w w' := by
  have hb : Below w.heap.size w (w.alloc (.cells #[.int .i64 a, .int .i64 b] 2)) := (Below.refl _ _).alloc (Nat.le_refl _) _
  cases hx : mayI a && mayI b
  · have hh := hid hx
    clear hx
    go_enter Tryz.func76, Tryz.ntmps76
    go_wp2_with (first | (go_at_call 78; refine (may_any _ _ [a, b] _ row_lit (by simp)).mono ?_; rw [show [a, b].all mayI = false by simpa using hh.out]; rintro e w' ⟨rfl, rfl⟩) | (go_at_call 77; refine (told_no _ _).mono ?_; rintro e w' ⟨rfl, rfl⟩))
    go_ret2
    exact ⟨ret_i2 (by simp [addI, hh.out]), hb⟩
  · have hh := hid hx
    rw [Bool.and_eq_true] at hx
    obtain ⟨h1, h2⟩ := mayI_of hx.1
    obtain ⟨h3, h4⟩ := mayI_of hx.2
    clear hx
    go_enter Tryz.func76, Tryz.ntmps76
    go_wp2_with (first | (go_at_call 78; refine (may_any _ _ [a, b] _ row_lit (by simp)).mono ?_; rw [show [a, b].all mayI = true by simpa using hh.out]; rintro e w' ⟨rfl, rfl⟩) | (go_at_call 77; refine (told_yes _ _).mono ?_; rintro e w' ⟨rfl, hb1⟩))
    go_ret2
    exact ⟨ret_i2 (by simp only [addI, valI, errI, hh.out, Bool.true_and]; split <;> rfl), hb.trans (hb1.mono (by simp))⟩
set_option maxHeartbeats 400000 in
theorem sub_any (a b : Int) (w : World) :
    Calls Tryz.prog 44 #[.int .i64 a, .int .i64 b] w fun e w' => e = .returned (.tuple #[.int .i64 (subI a b).1, .int .i64 (subI a b).2]) ∧ Below w.heap.size w w' := by
  have hb : Below w.heap.size w (w.alloc (.cells #[.int .i64 a, .int .i64 b] 2)) := (Below.refl _ _).alloc (Nat.le_refl _) _
  cases hx : mayI a && mayI b
  · have hh := hid hx
    clear hx
    go_enter Tryz.func44, Tryz.ntmps44
    go_wp2_with (first | (go_at_call 78; refine (may_any _ _ [a, b] _ row_lit (by simp)).mono ?_; rw [show [a, b].all mayI = false by simpa using hh.out]; rintro e w' ⟨rfl, rfl⟩) | (go_at_call 77; refine (told_no _ _).mono ?_; rintro e w' ⟨rfl, rfl⟩))
    go_ret2
    exact ⟨ret_i2 (by simp [subI, hh.out]), hb⟩
  · have hh := hid hx
    rw [Bool.and_eq_true] at hx
    obtain ⟨h1, h2⟩ := mayI_of hx.1
    obtain ⟨h3, h4⟩ := mayI_of hx.2
    clear hx
    go_enter Tryz.func44, Tryz.ntmps44
    go_wp2_with (first | (go_at_call 78; refine (may_any _ _ [a, b] _ row_lit (by simp)).mono ?_; rw [show [a, b].all mayI = true by simpa using hh.out]; rintro e w' ⟨rfl, rfl⟩) | (go_at_call 77; refine (told_yes _ _).mono ?_; rintro e w' ⟨rfl, hb1⟩))
    go_ret2
    exact ⟨ret_i2 (by simp only [subI, valI, errI, hh.out, Bool.true_and]; split <;> rfl), hb.trans (hb1.mono (by simp))⟩
def sumFrom : Int → List Int → Int × Int
  | s, [] => (s, 0)
  | s, x :: r => if (addI s x).2 = 0 then sumFrom (addI s x).1 r else (0, 7)
theorem addI_cases (s x : Int) : ((addI s x).2 = 0 ∧ mayI s = true ∧ mayI x = true ∧ mayI (s + x) = true ∧ (addI s x).1 = s + x) ∨ ((addI s x).2 = 7 ∧ (addI s x).1 = 0 ∧ (mayI s && mayI x && mayI (s + x)) = false) := by
  unfold addI; split
  · rename_i h; simp at h; simp [h]
  · rename_i h; simp only [Bool.not_eq_true] at h; exact .inr ⟨rfl, rfl, h⟩
theorem sum_step {s x : Int} {k : Nat} {xs : List Int} (hlt : k < xs.length) (hx : xs.getD k 0 = x) (hs : sumFrom 0 xs = sumFrom s (xs.drop k)) (h0 : (addI s x).2 = 0) :
    sumFrom 0 xs = sumFrom (addI s x).1 (xs.drop (k + 1)) := by
  rw [hs, drop_step hlt, hx, sumFrom, if_pos h0]
theorem sum_stop {s x : Int} {k : Nat} {xs : List Int} (hlt : k < xs.length) (hx : xs.getD k 0 = x) (hs : sumFrom 0 xs = sumFrom s (xs.drop k)) (h0 : (addI s x).2 ≠ 0) :
    sumFrom 0 xs = (0, 7) := by
  rw [hs, drop_step hlt, hx, sumFrom, if_neg h0]
set_option maxHeartbeats 400000 in
theorem sum_any (a : Option Addr) (cap : Nat) (xs : List Int) (w : World) (hr : Row w a (xs.map (.int .i64))) (hm : xs.length ≤ 9223372036854775807) :
    Calls Tryz.prog 43 #[.slice a xs.length cap] w fun e w' => e = .returned (.tuple #[.int .i64 (sumFrom 0 xs).1, .int .i64 (sumFrom 0 xs).2]) ∧ Below w.heap.size w w' := by
  have Hr := hid hr
  clear hr
  go_enter Tryz.func43, Tryz.ntmps43
  go_wp2
  go_loopw [4, 11] (fun s i wr => ∃ (k : Nat) (x : Int), k ≤ xs.length ∧ i = .int .i64 k ∧ s = .int .i64 x ∧ Hid (sumFrom 0 xs = sumFrom x (xs.drop k)) ∧ Below w.heap.size w wr) (fun _ i _ => xs.length - (RowKit.intOf i).toNat)
  case atStart => exact ⟨0, 0, Nat.zero_le _, rfl, rfl, hid rfl, Below.refl _ _⟩
  case round =>
    obtain ⟨k, s, hk, rfl, rfl, hs, hbel⟩ := hrel
    by_cases hlt : k < xs.length
    · obtain ⟨b, off, rfl, hc⟩ := (Hr.out.kept hbel).int k hlt
      generalize hx : xs.getD k 0 = x at *
      have HX := hid hx
      clear hx
      rcases addI_cases s x with ⟨h0, -, -, -, h1⟩ | ⟨h0, h1, -⟩
      · have hne : ((addI s x).2 != 0) = false := by simp [h0]
        have H0 := hid h0
        clear h0 h1
        go_wp2_with (go_at_call 76; refine (add_any _ _ _).mono ?_; rintro e w' ⟨rfl, hb1⟩)
        go_roundw
        case rel => exact ⟨k + 1, _, by omega, by go_num, rfl, hid (sum_step hlt HX.out hs.out H0.out), hbel.trans (hb1.mono hbel.size)⟩
        case measure => simp [RowKit.intOf]; omega
      · have hne : ((addI s x).2 != 0) = true := by simp [h0]
        have H0 := hid h0
        clear h0 h1
        go_wp2_with (go_at_call 76; refine (add_any _ _ _).mono ?_; rintro e w' ⟨rfl, hb1⟩)
        go_ret2
        exact ⟨ret_i2 (by rw [sum_stop hlt HX.out hs.out (by rw [H0.out]; decide), H0.out]), hbel.trans (hb1.mono hbel.size)⟩
    · obtain rfl : k = xs.length := by omega
      go_wp2
      go_ret2
      exact ⟨ret_i2 (by rw [hs.out, List.drop_length]; rfl), hbel⟩
end Go.Proofs.YtdnaegleifhmgaaGreat
end
section
namespace Go.Proofs.YtdnaegleifhmgaaGreat
open Go.RowKit Go.Lib Go.Tk
end Go.Proofs.YtdnaegleifhmgaaGreat
end
section
namespace Go.Proofs.YtdnaegleifhmgaaGreat
open Go.RowKit Go.Lib Go.Tk
end Go.Proofs.YtdnaegleifhmgaaGreat
end
section
namespace Go.Proofs.YtdnaegleifhmgaaGreat
open Go.RowKit Go.Lib Go.Tk
theorem wraps_i64 (n : Int) (h₀ : 0 ≤ n) (h₁ : n < 2 ^ 62) : IntKind.i64.wrap n = n := by rw [IntKind.wrap_i64]; omega
theorem and26 (x : Int) (h0 : 0 ≤ x) (h1 : x < 4611686018427387904) : bits .and .i64 x 67108863 = x % 67108864 :=
  bits_mask .i64 62 (by decide) wraps_i64 26 (by decide) x h0 h1
theorem and13 (x : Int) (h0 : 0 ≤ x) (h1 : x < 4611686018427387904) : bits .and .i64 x 8191 = x % 8192 :=
  bits_mask .i64 62 (by decide) wraps_i64 13 (by decide) x h0 h1
theorem or13 (x y : Int) (h0 : 0 ≤ x) (hx : x % 8192 = 0) (h1 : x < 4611686018427387904) (hy0 : 0 ≤ y) (hy : y < 8192) : bits .or .i64 x y = x + y :=
  bits_join .i64 62 (by decide) wraps_i64 13 x y h0 (by omega) h1 hy0 (by omega) (by omega)
theorem idx2_0 (x0 x1 : Value) (w : World) : (Instr.index 221 (.agg #[x0, x1]) (.int .i64 0)).run Tryz.prog w = .ok x0 w := by kernel_rfl
theorem idx2_1 (x0 x1 : Value) (w : World) : (Instr.index 221 (.agg #[x0, x1]) (.int .i64 1)).run Tryz.prog w = .ok x1 w := by kernel_rfl
theorem prod_bd {x y X Y : Int} (h0 : 0 ≤ x) (h1 : x ≤ X) (h2 : 0 ≤ y) (h3 : y ≤ Y) : 0 ≤ x * y ∧ x * y ≤ X * Y :=
  ⟨Int.mul_nonneg h0 h2, Int.mul_le_mul h1 h3 h2 (by omega)⟩
def Words (a n p0 p1 p2 p3 : Int) : Prop :=
  (0 ≤ p0 ∧ p0 < 67108864) ∧ (0 ≤ p1 ∧ p1 < 67108864) ∧ (0 ≤ p2 ∧ p2 < 67108864) ∧ (0 ≤ p3 ∧ p3 < 67108864) ∧
  p0 + p1 * 67108864 + p2 * 4503599627370496 + p3 * 302231454903657293676544 = a * n
def HalvesPost (a n : Int) (w : World) (e : Ending) (w' : World) : Prop :=
  ∃ p0 p1 p2 p3 : Int, e = .returned (.agg #[.int .i64 p0, .int .i64 p1, .int .i64 p2, .int .i64 p3]) ∧ Words a n p0 p1 p2 p3 ∧ Below w.heap.size w w'
theorem words_of {a n x0 x1 y0 y1 s0 s1 s2 : Int} (hA : (x0 = a % 67108864 ∧ x1 = a / 67108864) ∧ y0 = n % 67108864 ∧ y1 = n / 67108864)
    (hS : s0 = x0 * y0 ∧ s1 = x0 * y1 + x1 * y0 ∧ s2 = x1 * y1) (g0 : 0 ≤ s0 ∧ s0 ≤ 4503599627370496) (g1 : 0 ≤ s1 ∧ s1 ≤ 4503599627370496) (g2 : 0 ≤ s2 ∧ s2 ≤ 274877906944) :
    Words a n (s0 % 67108864) ((s1 + s0 / 67108864) % 67108864) ((s2 + (s1 + s0 / 67108864) / 67108864) % 67108864) ((s2 + (s1 + s0 / 67108864) / 67108864) / 67108864) := by
  obtain ⟨⟨h1, h2⟩, h3, h4⟩ := hA
  obtain ⟨k0, k1, k2⟩ := hS
  refine ⟨by omega, by omega, by omega, by omega, ?_⟩
  have ea : a = x1 * 67108864 + x0 := by omega
  have en : n = y1 * 67108864 + y0 := by omega
  have e : a * n = s2 * 4503599627370496 + s1 * 67108864 + s0 := by
    rw [ea, en, k0, k1, k2]
    simp only [Int.add_mul, Int.mul_add]
    have t1 : x1 * 67108864 * (y1 * 67108864) = x1 * y1 * 4503599627370496 := by
      rw [Int.mul_assoc, Int.mul_left_comm 67108864, ← Int.mul_assoc, ← Int.mul_assoc, Int.mul_assoc _ _ 67108864]; rfl
    have t2 : x1 * 67108864 * y0 = x1 * y0 * 67108864 := by rw [Int.mul_right_comm]
    have t3 : x0 * (y1 * 67108864) = x0 * y1 * 67108864 := by rw [Int.mul_assoc]
    rw [t1, t2, t3]; omega
  rw [e]; omega
set_option maxHeartbeats 1000000 in
theorem halves_any (a n : Int) (w : World) (a0 : 0 ≤ a) (a1 : a ≤ 1125899906842624) (n0 : 0 ≤ n) (n1 : n ≤ 1099511627776) :
    Calls Tryz.prog 162 #[.int .i64 a, .int .i64 n] w (HalvesPost a n w) := by
  have e1 := and26 a a0 (by omega)
  have e2 := and26 n n0 (by omega)
  obtain ⟨x0, hx0⟩ : ∃ x, x = a % 67108864 := ⟨_, rfl⟩
  obtain ⟨x1, hx1⟩ : ∃ x, x = a / 67108864 := ⟨_, rfl⟩
  obtain ⟨y0, hy0⟩ : ∃ x, x = n % 67108864 := ⟨_, rfl⟩
  obtain ⟨y1, hy1⟩ : ∃ x, x = n / 67108864 := ⟨_, rfl⟩
  rw [← hx0] at e1
  rw [← hy0] at e2
  have e3 := hx1.symm
  have e4 := hy1.symm
  obtain ⟨b1, b2⟩ := prod_bd (x := x0) (X := 67108863) (y := y0) (Y := 67108863) (by omega) (by omega) (by omega) (by omega)
  obtain ⟨b3, b4⟩ := prod_bd (x := x0) (X := 67108863) (y := y1) (Y := 16384) (by omega) (by omega) (by omega) (by omega)
  obtain ⟨b5, b6⟩ := prod_bd (x := x1) (X := 16777216) (y := y0) (Y := 67108863) (by omega) (by omega) (by omega) (by omega)
  obtain ⟨b7, b8⟩ := prod_bd (x := x1) (X := 16777216) (y := y1) (Y := 16384) (by omega) (by omega) (by omega) (by omega)
  have HA := hid (And.intro (And.intro hx0 hx1) (And.intro hy0 hy1))
  clear hx0 hx1 hy0 hy1
  have i0 := idx2_0
  have i1 := idx2_1
  go_enter Tryz.func162, Tryz.ntmps162
  go_wp2
  iterate 10 ((first | (refine wp_loop_rounds 4 ?_; rw [rounds_succ]) | rw [rounds_succ]); go_wp2)
  obtain ⟨s0, hs0⟩ : ∃ x, x = x0 * y0 := ⟨_, rfl⟩
  obtain ⟨s1, hs1⟩ : ∃ x, x = x0 * y1 + x1 * y0 := ⟨_, rfl⟩
  obtain ⟨s2, hs2⟩ : ∃ x, x = x1 * y1 := ⟨_, rfl⟩
  rw [← hs0, ← hs1, ← hs2]
  have g0 : 0 ≤ s0 ∧ s0 ≤ 4503599627370496 := by omega
  have g1 : 0 ≤ s1 ∧ s1 ≤ 4503599627370496 := by omega
  have g2 : 0 ≤ s2 ∧ s2 ≤ 274877906944 := by omega
  have HS := hid (And.intro hs0 (And.intro hs1 hs2))
  clear hs0 hs1 hs2 b1 b2 b3 b4 b5 b6 b7 b8 e1 e2 e3 e4
  have m0 := and26 s0 (by omega) (by omega)
  have m1 := and26 (s1 + s0 / 67108864) (by omega) (by omega)
  have m2 := and26 (s2 + (s1 + s0 / 67108864) / 67108864) (by omega) (by omega)
  go_region
  go_wp2
  rw [rounds_succ]
  go_wp2
  go_region
  go_wp2
  rw [rounds_succ]
  go_wp2
  go_region
  go_wp2
  rw [rounds_succ]
  go_wp2
  exact bodyPost_ret (v := .agg #[.int .i64 (s0 % 67108864), .int .i64 ((s1 + s0 / 67108864) % 67108864), .int .i64 ((s2 + (s1 + s0 / 67108864) / 67108864) % 67108864), .int .i64 ((s2 + (s1 + s0 / 67108864) / 67108864) / 67108864)]) (by simp [results, Tryz.results162, go_sem]) rfl
    ⟨_, _, _, _, rfl, words_of HA.out HS.out g0 g1 g2, (((Below.refl _ _).alloc (Nat.le_refl _) _).alloc (by simp) _).drew.drew.drew⟩
end Go.Proofs.YtdnaegleifhmgaaGreat
end
section
namespace Go.Proofs.YtdnaegleifhmgaaGreat
open Go.RowKit Go.Lib Go.Tk
def PartOk (a n f : Int) : Prop := 0 ≤ a ∧ a ≤ 1125899906842624 ∧ 0 ≤ n ∧ 1 ≤ f ∧ n ≤ f ∧ f ≤ 1099511627776
instance (a n f : Int) : Decidable (PartOk a n f) := by unfold PartOk; exact inferInstance
def partW (a n f : Int) : Int := if PartOk a n f then a * n / f else 0
def partR (a n f : Int) : Int := if PartOk a n f then a * n % f else 0
def partE (a n f : Int) : Int := if PartOk a n f then 0 else 7
theorem part_no {a n f : Int} (h : ¬ PartOk a n f) : Ending.returned (.tuple #[.int .i64 0, .int .i64 0, .int .i64 7]) = .returned (.tuple #[.int .i64 (partW a n f), .int .i64 (partR a n f), .int .i64 (partE a n f)]) :=
  ret_i3 (by simp [partW, h]) (by simp [partR, h]) (by simp [partE, h])
theorem part_step {V W R b f : Int} (hf : 0 < f) (hW : W = V / f) (hR : R = V % f) : W * 8192 + (R * 8192 + b) / f = (V * 8192 + b) / f ∧ (R * 8192 + b) % f = (V * 8192 + b) % f := by
  have e : V * 8192 + b = (R * 8192 + b) + f * (W * 8192) := by
    have := Int.mul_ediv_add_emod V f
    rw [hW, hR]
    have e2 : f * (V / f * 8192) = f * (V / f) * 8192 := by rw [Int.mul_assoc]
    rw [e2]; omega
  rw [e, Int.add_mul_ediv_left _ _ (by omega), Int.add_mul_emod_self_left]
  omega
theorem part_le {V T a n f : Int} (hV : V ≤ T) (hT : T = a * n) (hf : 0 < f) (hn : n ≤ f) (ha : 0 ≤ a) : V / f ≤ a := by
  have h1 : a * n ≤ a * f := Int.mul_le_mul_of_nonneg_left hn ha
  have h2 : V / f ≤ (a * f) / f := Int.ediv_le_ediv hf (by omega)
  rw [Int.mul_ediv_cancel _ (by omega)] at h2
  exact h2
theorem part_rest {V f : Int} (hf : 0 < f) : 0 ≤ V % f ∧ V % f < f := ⟨Int.emod_nonneg _ (by omega), Int.emod_lt_of_pos _ hf⟩
set_option maxHeartbeats 400000 in
theorem part_bad (a n f : Int) (w : World) (h : ¬ PartOk a n f) :
    Calls Tryz.prog 155 #[.int .i64 a, .int .i64 n, .int .i64 f] w fun e w' => e = .returned (.tuple #[.int .i64 (partW a n f), .int .i64 (partR a n f), .int .i64 (partE a n f)]) ∧ Below w.heap.size w w' := by
  have hb : Below w.heap.size w (w.alloc (.cells #[.int .i64 a] 2)) := (Below.refl _ _).alloc (Nat.le_refl _) _
  have F := hid (part_no h)
  by_cases h1 : a < 0
  · go_enter Tryz.func155, Tryz.ntmps155
    go_wp2
    go_ret3
    exact ⟨F.out, Below.refl _ _⟩
  cases h2 : mayI a
  · go_enter Tryz.func155, Tryz.ntmps155
    go_wp2_with (go_at_call 78; refine (may_any _ _ [a] _ row_lit (by simp)).mono ?_; rintro e w' ⟨rfl, rfl⟩)
    go_ret3
    exact ⟨F.out, hb⟩
  obtain ⟨_, h2'⟩ := mayI_of h2
  have h3 : n < 0 ∨ (0 ≤ n ∧ f < 1) ∨ (0 ≤ n ∧ 1 ≤ f ∧ f < n) ∨ (0 ≤ n ∧ 1 ≤ f ∧ n ≤ f ∧ 1099511627776 < f) := by unfold PartOk at h; omega
  clear h
  rcases h3 with h3 | ⟨h3, h4⟩ | ⟨h3, h4, h5⟩ | ⟨h3, h4, h5, h6⟩
  all_goals
    go_enter Tryz.func155, Tryz.ntmps155
    go_wp2_with (go_at_call 78; refine (may_any _ _ [a] _ row_lit (by simp)).mono ?_; rintro e w' ⟨rfl, rfl⟩)
    go_ret3
    exact ⟨F.out, hb⟩
set_option maxHeartbeats 4000000 in
theorem part_good (a n f : Int) (w : World) (h : PartOk a n f) :
    Calls Tryz.prog 155 #[.int .i64 a, .int .i64 n, .int .i64 f] w fun e w' => e = .returned (.tuple #[.int .i64 (partW a n f), .int .i64 (partR a n f), .int .i64 (partE a n f)]) ∧ Below w.heap.size w w' := by
  have hb : Below w.heap.size w (w.alloc (.cells #[.int .i64 a] 2)) := (Below.refl _ _).alloc (Nat.le_refl _) _
  have H := hid h
  obtain ⟨h1, h2, h3, h4, h5, h6⟩ := h
  have hm : mayI a = true := by simp [mayI]; omega
  have i0 := idx2_0
  have i1 := idx2_1
  go_enter Tryz.func155, Tryz.ntmps155
  go_wp2_with fail
  refine (may_any _ _ [a] _ row_lit (by simp)).mono ?_
  rintro e w' ⟨rfl, rfl⟩
  go_wp2_with fail
  refine (halves_any a n _ h1 h2 h3 (by omega)).mono ?_
  rintro e w1 ⟨p0, p1, p2, p3, rfl, hw, hb1⟩
  obtain ⟨T, hT⟩ : ∃ T, T = a * n := ⟨_, rfl⟩
  obtain ⟨q0, q1, q2, q3, hsum⟩ := hw
  rw [← hT] at hsum
  have HT := hid hT
  have HS := hid hsum
  clear hsum hT
  have hb2 := hb.trans (hb1.mono (by simp))
  obtain ⟨b1, hb1⟩ : ∃ x, x = p3 / 8192 := ⟨_, rfl⟩
  obtain ⟨b2, hb2⟩ : ∃ x, x = p3 % 8192 := ⟨_, rfl⟩
  have eb1 := hb1.symm
  have eb2 := and13 p3 (by omega) (by omega)
  rw [← hb2] at eb2
  have rb1 : 0 ≤ b1 ∧ b1 < 8192 := by omega
  have rb2 : 0 ≤ b2 ∧ b2 < 8192 := by omega
  have hp0 : p3 = b1 * 8192 + b2 := by omega
  have Hp0 := hid hp0
  clear hb1 hb2 hp0
  obtain ⟨b3, hb3⟩ : ∃ x, x = p2 / 8192 := ⟨_, rfl⟩
  obtain ⟨b4, hb4⟩ : ∃ x, x = p2 % 8192 := ⟨_, rfl⟩
  have eb3 := hb3.symm
  have eb4 := and13 p2 (by omega) (by omega)
  rw [← hb4] at eb4
  have rb3 : 0 ≤ b3 ∧ b3 < 8192 := by omega
  have rb4 : 0 ≤ b4 ∧ b4 < 8192 := by omega
  have hp1 : p2 = b3 * 8192 + b4 := by omega
  have Hp1 := hid hp1
  clear hb3 hb4 hp1
  obtain ⟨b5, hb5⟩ : ∃ x, x = p1 / 8192 := ⟨_, rfl⟩
  obtain ⟨b6, hb6⟩ : ∃ x, x = p1 % 8192 := ⟨_, rfl⟩
  have eb5 := hb5.symm
  have eb6 := and13 p1 (by omega) (by omega)
  rw [← hb6] at eb6
  have rb5 : 0 ≤ b5 ∧ b5 < 8192 := by omega
  have rb6 : 0 ≤ b6 ∧ b6 < 8192 := by omega
  have hp2 : p1 = b5 * 8192 + b6 := by omega
  have Hp2 := hid hp2
  clear hb5 hb6 hp2
  obtain ⟨b7, hb7⟩ : ∃ x, x = p0 / 8192 := ⟨_, rfl⟩
  obtain ⟨b8, hb8⟩ : ∃ x, x = p0 % 8192 := ⟨_, rfl⟩
  have eb7 := hb7.symm
  have eb8 := and13 p0 (by omega) (by omega)
  rw [← hb8] at eb8
  have rb7 : 0 ≤ b7 ∧ b7 < 8192 := by omega
  have rb8 : 0 ≤ b8 ∧ b8 < 8192 := by omega
  have hp3 : p0 = b7 * 8192 + b8 := by omega
  have Hp3 := hid hp3
  clear hb7 hb8 hp3
  obtain ⟨V1, hV1⟩ : ∃ x, x = b1 := ⟨_, rfl⟩
  obtain ⟨V2, hV2⟩ : ∃ x, x = V1 * 8192 + b2 := ⟨_, rfl⟩
  obtain ⟨V3, hV3⟩ : ∃ x, x = V2 * 8192 + b3 := ⟨_, rfl⟩
  obtain ⟨V4, hV4⟩ : ∃ x, x = V3 * 8192 + b4 := ⟨_, rfl⟩
  obtain ⟨V5, hV5⟩ : ∃ x, x = V4 * 8192 + b5 := ⟨_, rfl⟩
  obtain ⟨V6, hV6⟩ : ∃ x, x = V5 * 8192 + b6 := ⟨_, rfl⟩
  obtain ⟨V7, hV7⟩ : ∃ x, x = V6 * 8192 + b7 := ⟨_, rfl⟩
  obtain ⟨V8, hV8⟩ : ∃ x, x = V7 * 8192 + b8 := ⟨_, rfl⟩
  have hVT : V8 = T := by
    have a0 := Hp0.out; have a1 := Hp1.out; have a2 := Hp2.out; have a3 := Hp3.out; have a4 := HS.out
    omega
  have l1 : 0 ≤ V1 ∧ V1 ≤ T := by omega
  have l2 : 0 ≤ V2 ∧ V2 ≤ T := by omega
  have l3 : 0 ≤ V3 ∧ V3 ≤ T := by omega
  have l4 : 0 ≤ V4 ∧ V4 ≤ T := by omega
  have l5 : 0 ≤ V5 ∧ V5 ≤ T := by omega
  have l6 : 0 ≤ V6 ∧ V6 ≤ T := by omega
  have l7 : 0 ≤ V7 ∧ V7 ≤ T := by omega
  have l8 : 0 ≤ V8 ∧ V8 ≤ T := by omega
  have HV1 := hid hV1
  have HV2 := hid hV2
  have HV3 := hid hV3
  have HV4 := hid hV4
  have HV5 := hid hV5
  have HV6 := hid hV6
  have HV7 := hid hV7
  have HV8 := hid hV8
  have HVT := hid hVT
  clear hVT hV1 hV2 hV3 hV4 hV5 hV6 hV7 hV8
  obtain ⟨W1, hW1⟩ : ∃ x, x = V1 / f := ⟨_, rfl⟩
  obtain ⟨R1, hR1⟩ : ∃ x, x = V1 % f := ⟨_, rfl⟩
  have w1 : 0 ≤ W1 ∧ W1 ≤ 1125899906842624 := by
    rw [hW1]; exact ⟨Int.ediv_nonneg l1.1 (by omega), Int.le_trans (part_le l1.2 HT.out (by omega) h5 h1) h2⟩
  have r1 : 0 ≤ R1 ∧ R1 < 1099511627776 := by
    rw [hR1]; have := part_rest (V := V1) (f := f) (by omega); omega
  have HW1 := hid hW1
  have HR1 := hid hR1
  clear hW1 hR1
  obtain ⟨W2, hW2⟩ : ∃ x, x = V2 / f := ⟨_, rfl⟩
  obtain ⟨R2, hR2⟩ : ∃ x, x = V2 % f := ⟨_, rfl⟩
  have w2 : 0 ≤ W2 ∧ W2 ≤ 1125899906842624 := by
    rw [hW2]; exact ⟨Int.ediv_nonneg l2.1 (by omega), Int.le_trans (part_le l2.2 HT.out (by omega) h5 h1) h2⟩
  have r2 : 0 ≤ R2 ∧ R2 < 1099511627776 := by
    rw [hR2]; have := part_rest (V := V2) (f := f) (by omega); omega
  have HW2 := hid hW2
  have HR2 := hid hR2
  clear hW2 hR2
  obtain ⟨W3, hW3⟩ : ∃ x, x = V3 / f := ⟨_, rfl⟩
  obtain ⟨R3, hR3⟩ : ∃ x, x = V3 % f := ⟨_, rfl⟩
  have w3 : 0 ≤ W3 ∧ W3 ≤ 1125899906842624 := by
    rw [hW3]; exact ⟨Int.ediv_nonneg l3.1 (by omega), Int.le_trans (part_le l3.2 HT.out (by omega) h5 h1) h2⟩
  have r3 : 0 ≤ R3 ∧ R3 < 1099511627776 := by
    rw [hR3]; have := part_rest (V := V3) (f := f) (by omega); omega
  have HW3 := hid hW3
  have HR3 := hid hR3
  clear hW3 hR3
  obtain ⟨W4, hW4⟩ : ∃ x, x = V4 / f := ⟨_, rfl⟩
  obtain ⟨R4, hR4⟩ : ∃ x, x = V4 % f := ⟨_, rfl⟩
  have w4 : 0 ≤ W4 ∧ W4 ≤ 1125899906842624 := by
    rw [hW4]; exact ⟨Int.ediv_nonneg l4.1 (by omega), Int.le_trans (part_le l4.2 HT.out (by omega) h5 h1) h2⟩
  have r4 : 0 ≤ R4 ∧ R4 < 1099511627776 := by
    rw [hR4]; have := part_rest (V := V4) (f := f) (by omega); omega
  have HW4 := hid hW4
  have HR4 := hid hR4
  clear hW4 hR4
  obtain ⟨W5, hW5⟩ : ∃ x, x = V5 / f := ⟨_, rfl⟩
  obtain ⟨R5, hR5⟩ : ∃ x, x = V5 % f := ⟨_, rfl⟩
  have w5 : 0 ≤ W5 ∧ W5 ≤ 1125899906842624 := by
    rw [hW5]; exact ⟨Int.ediv_nonneg l5.1 (by omega), Int.le_trans (part_le l5.2 HT.out (by omega) h5 h1) h2⟩
  have r5 : 0 ≤ R5 ∧ R5 < 1099511627776 := by
    rw [hR5]; have := part_rest (V := V5) (f := f) (by omega); omega
  have HW5 := hid hW5
  have HR5 := hid hR5
  clear hW5 hR5
  obtain ⟨W6, hW6⟩ : ∃ x, x = V6 / f := ⟨_, rfl⟩
  obtain ⟨R6, hR6⟩ : ∃ x, x = V6 % f := ⟨_, rfl⟩
  have w6 : 0 ≤ W6 ∧ W6 ≤ 1125899906842624 := by
    rw [hW6]; exact ⟨Int.ediv_nonneg l6.1 (by omega), Int.le_trans (part_le l6.2 HT.out (by omega) h5 h1) h2⟩
  have r6 : 0 ≤ R6 ∧ R6 < 1099511627776 := by
    rw [hR6]; have := part_rest (V := V6) (f := f) (by omega); omega
  have HW6 := hid hW6
  have HR6 := hid hR6
  clear hW6 hR6
  obtain ⟨W7, hW7⟩ : ∃ x, x = V7 / f := ⟨_, rfl⟩
  obtain ⟨R7, hR7⟩ : ∃ x, x = V7 % f := ⟨_, rfl⟩
  have w7 : 0 ≤ W7 ∧ W7 ≤ 1125899906842624 := by
    rw [hW7]; exact ⟨Int.ediv_nonneg l7.1 (by omega), Int.le_trans (part_le l7.2 HT.out (by omega) h5 h1) h2⟩
  have r7 : 0 ≤ R7 ∧ R7 < 1099511627776 := by
    rw [hR7]; have := part_rest (V := V7) (f := f) (by omega); omega
  have HW7 := hid hW7
  have HR7 := hid hR7
  clear hW7 hR7
  obtain ⟨W8, hW8⟩ : ∃ x, x = V8 / f := ⟨_, rfl⟩
  obtain ⟨R8, hR8⟩ : ∃ x, x = V8 % f := ⟨_, rfl⟩
  have w8 : 0 ≤ W8 ∧ W8 ≤ 1125899906842624 := by
    rw [hW8]; exact ⟨Int.ediv_nonneg l8.1 (by omega), Int.le_trans (part_le l8.2 HT.out (by omega) h5 h1) h2⟩
  have r8 : 0 ≤ R8 ∧ R8 < 1099511627776 := by
    rw [hR8]; have := part_rest (V := V8) (f := f) (by omega); omega
  have HW8 := hid hW8
  have HR8 := hid hR8
  clear hW8 hR8
  clear l1 l2 l3 l4 l5 l6 l7 l8 q0 q1 q2 q3
  go_wp2
  refine wp_loop_rounds 6 ?_
  rw [rounds_succ]
  go_wp2
  go_region
  go_wp2
  refine wp_loop_rounds 4 ?_
  have o1 : bits .or .i64 0 b1 = b1 := by
    have := or13 0 b1 (by omega) (by omega) (by omega) (by omega) (by omega)
    rw [this]; omega
  have c1 : b1 / f = W1 := by rw [HW1.out, HV1.out]
  have d1 : b1 % f = R1 := by rw [HR1.out, HV1.out]
  rw [rounds_succ]
  go_wp2
  try simp only [c1, d1]
  clear o1 c1 d1
  have o2 : bits .or .i64 (R1 * 8192) b2 = R1 * 8192 + b2 := or13 _ _ (by omega) (by omega) (by omega) (by omega) (by omega)
  have s2 := part_step (V := V1) (W := W1) (R := R1) (b := b2) (f := f) (by omega) HW1.out HR1.out
  have x2 : 0 ≤ (R1 * 8192 + b2) / f := Int.ediv_nonneg (by omega) (by omega)
  have c2 : W1 * 8192 + (R1 * 8192 + b2) / f = W2 := by rw [HW2.out, HV2.out]; exact s2.1
  have d2 : (R1 * 8192 + b2) % f = R2 := by rw [HR2.out, HV2.out]; exact s2.2
  clear s2
  rw [rounds_succ]
  go_wp2
  try simp only [d2]
  clear o2 c2 d2 x2
  rw [rounds_succ]
  go_wp2
  rw [rounds_succ]
  go_wp2
  go_region
  go_wp2
  refine wp_loop_rounds 4 ?_
  have o3 : bits .or .i64 (R2 * 8192) b3 = R2 * 8192 + b3 := or13 _ _ (by omega) (by omega) (by omega) (by omega) (by omega)
  have s3 := part_step (V := V2) (W := W2) (R := R2) (b := b3) (f := f) (by omega) HW2.out HR2.out
  have x3 : 0 ≤ (R2 * 8192 + b3) / f := Int.ediv_nonneg (by omega) (by omega)
  have c3 : W2 * 8192 + (R2 * 8192 + b3) / f = W3 := by rw [HW3.out, HV3.out]; exact s3.1
  have d3 : (R2 * 8192 + b3) % f = R3 := by rw [HR3.out, HV3.out]; exact s3.2
  clear s3
  rw [rounds_succ]
  go_wp2
  try simp only [d3]
  clear o3 c3 d3 x3
  have o4 : bits .or .i64 (R3 * 8192) b4 = R3 * 8192 + b4 := or13 _ _ (by omega) (by omega) (by omega) (by omega) (by omega)
  have s4 := part_step (V := V3) (W := W3) (R := R3) (b := b4) (f := f) (by omega) HW3.out HR3.out
  have x4 : 0 ≤ (R3 * 8192 + b4) / f := Int.ediv_nonneg (by omega) (by omega)
  have c4 : W3 * 8192 + (R3 * 8192 + b4) / f = W4 := by rw [HW4.out, HV4.out]; exact s4.1
  have d4 : (R3 * 8192 + b4) % f = R4 := by rw [HR4.out, HV4.out]; exact s4.2
  clear s4
  rw [rounds_succ]
  go_wp2
  try simp only [d4]
  clear o4 c4 d4 x4
  rw [rounds_succ]
  go_wp2
  rw [rounds_succ]
  go_wp2
  go_region
  go_wp2
  refine wp_loop_rounds 4 ?_
  have o5 : bits .or .i64 (R4 * 8192) b5 = R4 * 8192 + b5 := or13 _ _ (by omega) (by omega) (by omega) (by omega) (by omega)
  have s5 := part_step (V := V4) (W := W4) (R := R4) (b := b5) (f := f) (by omega) HW4.out HR4.out
  have x5 : 0 ≤ (R4 * 8192 + b5) / f := Int.ediv_nonneg (by omega) (by omega)
  have c5 : W4 * 8192 + (R4 * 8192 + b5) / f = W5 := by rw [HW5.out, HV5.out]; exact s5.1
  have d5 : (R4 * 8192 + b5) % f = R5 := by rw [HR5.out, HV5.out]; exact s5.2
  clear s5
  rw [rounds_succ]
  go_wp2
  try simp only [d5]
  clear o5 c5 d5 x5
  have o6 : bits .or .i64 (R5 * 8192) b6 = R5 * 8192 + b6 := or13 _ _ (by omega) (by omega) (by omega) (by omega) (by omega)
  have s6 := part_step (V := V5) (W := W5) (R := R5) (b := b6) (f := f) (by omega) HW5.out HR5.out
  have x6 : 0 ≤ (R5 * 8192 + b6) / f := Int.ediv_nonneg (by omega) (by omega)
  have c6 : W5 * 8192 + (R5 * 8192 + b6) / f = W6 := by rw [HW6.out, HV6.out]; exact s6.1
  have d6 : (R5 * 8192 + b6) % f = R6 := by rw [HR6.out, HV6.out]; exact s6.2
  clear s6
  rw [rounds_succ]
  go_wp2
  try simp only [d6]
  clear o6 c6 d6 x6
  rw [rounds_succ]
  go_wp2
  rw [rounds_succ]
  go_wp2
  go_region
  go_wp2
  refine wp_loop_rounds 4 ?_
  have o7 : bits .or .i64 (R6 * 8192) b7 = R6 * 8192 + b7 := or13 _ _ (by omega) (by omega) (by omega) (by omega) (by omega)
  have s7 := part_step (V := V6) (W := W6) (R := R6) (b := b7) (f := f) (by omega) HW6.out HR6.out
  have x7 : 0 ≤ (R6 * 8192 + b7) / f := Int.ediv_nonneg (by omega) (by omega)
  have c7 : W6 * 8192 + (R6 * 8192 + b7) / f = W7 := by rw [HW7.out, HV7.out]; exact s7.1
  have d7 : (R6 * 8192 + b7) % f = R7 := by rw [HR7.out, HV7.out]; exact s7.2
  clear s7
  rw [rounds_succ]
  go_wp2
  try simp only [d7]
  clear o7 c7 d7 x7
  have o8 : bits .or .i64 (R7 * 8192) b8 = R7 * 8192 + b8 := or13 _ _ (by omega) (by omega) (by omega) (by omega) (by omega)
  have s8 := part_step (V := V7) (W := W7) (R := R7) (b := b8) (f := f) (by omega) HW7.out HR7.out
  have x8 : 0 ≤ (R7 * 8192 + b8) / f := Int.ediv_nonneg (by omega) (by omega)
  have c8 : W7 * 8192 + (R7 * 8192 + b8) / f = W8 := by rw [HW8.out, HV8.out]; exact s8.1
  have d8 : (R7 * 8192 + b8) % f = R8 := by rw [HR8.out, HV8.out]; exact s8.2
  clear s8
  rw [rounds_succ]
  go_wp2
  try simp only [d8]
  clear o8 c8 d8 x8
  rw [rounds_succ]
  go_wp2
  rw [rounds_succ]
  go_wp2
  go_ret3
  have hg : a * n = V8 := by rw [HVT.out, HT.out]
  refine ⟨ret_i3 ?_ ?_ ?_, by repeat (first | exact hb2 | exact hb2.size | refine Below.drew ?_ | refine Below.setCell ?_ ?_ _ | refine Below.alloc ?_ ?_ _)⟩
  · rw [partW, if_pos H.out, hg, HW8.out]
  · rw [partR, if_pos H.out, hg, HR8.out]
  · rw [partE, if_pos H.out]
end Go.Proofs.YtdnaegleifhmgaaGreat
end
