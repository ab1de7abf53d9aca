/- Money1, Money2, Money3, Money4. -/
import Derived.Test.YtmhbpifhpolghaaGreatRows
import Derived.Test.YtmhbpifhpolghaaGreatM642530e
set_option maxRecDepth 100000
set_option linter.unusedVariables false
set_option linter.unusedSimpArgs false
set_option linter.unusedSectionVars false
section
namespace Go.Proofs.YtmhbpifhpolghaaGreat
open Go.RowKit Go.Lib Go.Tk
def mayI (x : Int) : Bool := decide (-1125899906842624 ≤ x) && decide (x ≤ 1125899906842624)
theorem all_take_succ {p : Int → Bool} {xs : List Int} {k : Nat} (h : k < xs.length) : (xs.take (k + 1)).all p = ((xs.take k).all p && p (xs.getD k 0)) := by
  rw [List.take_succ_eq_append_getElem h, List.all_append]; simp [List.getD_eq_getElem?_getD, h]
set_option maxHeartbeats 400000 in
theorem may_any (a : Option Addr) (cap : Nat) (xs : List Int) (w : World) (hr : Row w a (xs.map (.int .i64))) (hm : xs.length ≤ 9223372036854775807) :
    Calls Tryz.prog 178 #[.slice a xs.length cap] w fun e w' => e = .returned (.bool (xs.all mayI)) ∧ w = w' := by
  have Hr := hid hr
  clear hr
  go_enter Tryz.func178, Tryz.ntmps178
  go_wp2
  go_loop [7] (fun i => ∃ k : Nat, k ≤ xs.length ∧ i = .int .i64 k ∧ Hid ((xs.take k).all mayI = true)) (fun i => xs.length - (RowKit.intOf i).toNat)
  case atStart => exact ⟨0, Nat.zero_le _, rfl, hid (by simp)⟩
  case round =>
    obtain ⟨k, hk, rfl, hall⟩ := hrel
    by_cases hlt : k < xs.length
    · obtain ⟨b, off, rfl, hc⟩ := Hr.out.int k hlt
      have HT := hid (all_take_succ (p := mayI) hlt)
      generalize hx : xs.getD k 0 = x at *
      have HX := hid hx
      clear hx
      go_wp2
      all_goals first
        | (go_ret
           have h2 : xs.all mayI = false := by
             rw [← Bool.not_eq_true]; intro h
             rw [List.all_eq_true] at h
             have := h x (by rw [← HX.out, List.getD_eq_getElem?_getD, List.getElem?_eq_getElem hlt]; simp)
             simp [mayI] at this; omega
           exact ⟨ret_bool h2.symm, rfl⟩)
        | (go_round
           case rel => exact ⟨k + 1, by omega, by go_num, hid (by rw [HT.out, hall.out]; simp [mayI]; omega)⟩
           case measure => simp [RowKit.intOf]; omega)
    · obtain rfl : k = xs.length := by omega
      go_wp2
      go_ret
      exact ⟨ret_bool (by rw [← hall.out, List.take_length]), rfl⟩
theorem mayI_of {x : Int} (h : mayI x = true) : -1125899906842624 ≤ x ∧ x ≤ 1125899906842624 := by simpa [mayI] using h
def valI (x : Int) : Int := if mayI x then x else 0
def errI (x : Int) : Int := if mayI x then 0 else 7
def addI (a b : Int) : Int × Int := if mayI a && mayI b && mayI (a + b) then (a + b, 0) else (0, 7)
def subI (a b : Int) : Int × Int := if mayI a && mayI b && mayI (a - b) then (a - b, 0) else (0, 7)
set_option maxHeartbeats 400000 in
theorem told_no (x : Int) (w : World) :
    Calls Tryz.prog 177 #[.int .i64 x, .bool false] w fun e w' => e = .returned (.tuple #[.int .i64 0, .int .i64 7]) ∧ w = w' := by
  go_enter Tryz.func177, Tryz.ntmps177
  go_wp2
  go_ret2
  exact ⟨rfl, rfl⟩
set_option maxHeartbeats 400000 in
theorem told_yes (x : Int) (w : World) :
    Calls Tryz.prog 177 #[.int .i64 x, .bool true] w fun e w' => e = .returned (.tuple #[.int .i64 (valI x), .int .i64 (errI x)]) ∧ Below w.heap.size w w' := by
  have hb : Below w.heap.size w (w.alloc (.cells #[.int .i64 x] 2)) := (Below.refl _ _).alloc (Nat.le_refl _) _
  cases hx : mayI x
  all_goals
    go_enter Tryz.func177, Tryz.ntmps177
    go_wp2_with (go_at_call 178; refine (may_any _ _ [x] _ row_lit (by simp)).mono ?_; rintro e w' ⟨rfl, rfl⟩)
    go_ret2
    exact ⟨ret_i2 (by simp [valI, errI, hx]), hb⟩
set_option maxHeartbeats 400000 in
theorem check_any (x : Int) (w : World) :
    Calls Tryz.prog 132 #[.int .i64 x] w fun e w' => e = .returned (.int .i64 (errI x)) ∧ Below w.heap.size w w' := by
  go_enter Tryz.func132, Tryz.ntmps132
  go_wp2_with (go_at_call 177; refine (told_yes _ _).mono ?_; rintro e w' ⟨rfl, hb⟩)
  go_ret
  exact ⟨rfl, hb⟩
set_option maxHeartbeats 400000 in
theorem add_any (a b : Int) (w : World) :
    Calls Tryz.prog 158 #[.int .i64 a, .int .i64 b] w fun e w' => e = .returned (.tuple #[.int .i64 (addI a b).1, .int .i64 (addI a b).2]) ∧ Below w.heap.size w w' := by
  have hb : Below w.heap.size w (w.alloc (.cells #[.int .i64 a, .int .i64 b] 2)) := (Below.refl _ _).alloc (Nat.le_refl _) _
  cases hx : mayI a && mayI b
  · have hh := hid hx
    clear hx
    go_enter Tryz.func158, Tryz.ntmps158
    go_wp2_with (first | (go_at_call 178; refine (may_any _ _ [a, b] _ row_lit (by simp)).mono ?_; rw [show [a, b].all mayI = false by simpa using hh.out]; rintro e w' ⟨rfl, rfl⟩) | (go_at_call 177; refine (told_no _ _).mono ?_; rintro e w' ⟨rfl, rfl⟩))
    go_ret2
    exact ⟨ret_i2 (by simp [addI, hh.out]), hb⟩
  · have hh := hid hx
    rw [Bool.and_eq_true] at hx
    obtain ⟨h1, h2⟩ := mayI_of hx.1
    obtain ⟨h3, h4⟩ := mayI_of hx.2
    clear hx
    go_enter Tryz.func158, Tryz.ntmps158
    go_wp2_with (first | (go_at_call 178; refine (may_any _ _ [a, b] _ row_lit (by simp)).mono ?_; rw [show [a, b].all mayI = true by simpa using hh.out]; rintro e w' ⟨rfl, rfl⟩) | (go_at_call 177; refine (told_yes _ _).mono ?_; rintro e w' ⟨rfl, hb1⟩))
    go_ret2
    exact ⟨ret_i2 (by simp only [addI, valI, errI, hh.out, Bool.true_and]; split <;> rfl), hb.trans (hb1.mono (by simp))⟩
set_option maxHeartbeats 400000 in
theorem rmay_any (x : Int) (w : World) :
    Calls Tryz.prog 139 #[.int .i64 x] w fun e w' => e = .returned (.bool (mayI x)) ∧ w = w' := by
  go_enter Tryz.func139, Tryz.ntmps139
  go_wp2
  all_goals (go_ret; refine ⟨ret_bool ?_, rfl⟩; unfold mayI; rw [Bool.eq_iff_iff]; simp; omega)
def sumFrom : Int → List Int → Int × Int
  | s, [] => (s, 0)
  | s, x :: r => if (addI s x).2 = 0 then sumFrom (addI s x).1 r else (0, 7)
theorem addI_cases (s x : Int) : ((addI s x).2 = 0 ∧ mayI s = true ∧ mayI x = true ∧ mayI (s + x) = true ∧ (addI s x).1 = s + x) ∨ ((addI s x).2 = 7 ∧ (addI s x).1 = 0 ∧ (mayI s && mayI x && mayI (s + x)) = false) := by
  unfold addI; split
  · rename_i h; simp at h; simp [h]
  · rename_i h; simp only [Bool.not_eq_true] at h; exact .inr ⟨rfl, rfl, h⟩
theorem sum_step {s x : Int} {k : Nat} {xs : List Int} (hlt : k < xs.length) (hx : xs.getD k 0 = x) (hs : sumFrom 0 xs = sumFrom s (xs.drop k)) (h0 : (addI s x).2 = 0) :
    sumFrom 0 xs = sumFrom (addI s x).1 (xs.drop (k + 1)) := by
  rw [hs, drop_step hlt, hx, sumFrom, if_pos h0]
theorem sum_stop {s x : Int} {k : Nat} {xs : List Int} (hlt : k < xs.length) (hx : xs.getD k 0 = x) (hs : sumFrom 0 xs = sumFrom s (xs.drop k)) (h0 : (addI s x).2 ≠ 0) :
    sumFrom 0 xs = (0, 7) := by
  rw [hs, drop_step hlt, hx, sumFrom, if_neg h0]
set_option maxHeartbeats 400000 in
theorem sum_any (a : Option Addr) (cap : Nat) (xs : List Int) (w : World) (hr : Row w a (xs.map (.int .i64))) (hm : xs.length ≤ 9223372036854775807) :
    Calls Tryz.prog 176 #[.slice a xs.length cap] w fun e w' => e = .returned (.tuple #[.int .i64 (sumFrom 0 xs).1, .int .i64 (sumFrom 0 xs).2]) ∧ Below w.heap.size w w' := by
  have Hr := hid hr
  clear hr
  go_enter Tryz.func176, Tryz.ntmps176
  go_wp2
  go_loopw [4, 11] (fun s i wr => ∃ (k : Nat) (x : Int), k ≤ xs.length ∧ i = .int .i64 k ∧ s = .int .i64 x ∧ Hid (sumFrom 0 xs = sumFrom x (xs.drop k)) ∧ Below w.heap.size w wr) (fun _ i _ => xs.length - (RowKit.intOf i).toNat)
  case atStart => exact ⟨0, 0, Nat.zero_le _, rfl, rfl, hid rfl, Below.refl _ _⟩
  case round =>
    obtain ⟨k, s, hk, rfl, rfl, hs, hbel⟩ := hrel
    by_cases hlt : k < xs.length
    · obtain ⟨b, off, rfl, hc⟩ := (Hr.out.kept hbel).int k hlt
      generalize hx : xs.getD k 0 = x at *
      have HX := hid hx
      clear hx
      rcases addI_cases s x with ⟨h0, -, -, -, h1⟩ | ⟨h0, h1, -⟩
      · have hne : ((addI s x).2 != 0) = false := by simp [h0]
        have H0 := hid h0
        clear h0 h1
        go_wp2_with (go_at_call 158; refine (add_any _ _ _).mono ?_; rintro e w' ⟨rfl, hb1⟩)
        go_roundw
        case rel => exact ⟨k + 1, _, by omega, by go_num, rfl, hid (sum_step hlt HX.out hs.out H0.out), hbel.trans (hb1.mono hbel.size)⟩
        case measure => simp [RowKit.intOf]; omega
      · have hne : ((addI s x).2 != 0) = true := by simp [h0]
        have H0 := hid h0
        clear h0 h1
        go_wp2_with (go_at_call 158; refine (add_any _ _ _).mono ?_; rintro e w' ⟨rfl, hb1⟩)
        go_ret2
        exact ⟨ret_i2 (by rw [sum_stop hlt HX.out hs.out (by rw [H0.out]; decide), H0.out]), hbel.trans (hb1.mono hbel.size)⟩
    · obtain rfl : k = xs.length := by omega
      go_wp2
      go_ret2
      exact ⟨ret_i2 (by rw [hs.out, List.drop_length]; rfl), hbel⟩
set_option maxHeartbeats 400000 in
theorem rsum_any (a : Option Addr) (cap : Nat) (xs : List Int) (w : World) (hr : Row w a (xs.map (.int .i64))) (hm : xs.length ≤ 9223372036854775807) :
    Calls Tryz.prog 164 #[.slice a xs.length cap] w fun e w' => e = .returned (.tuple #[.int .i64 (sumFrom 0 xs).1, .int .i64 (sumFrom 0 xs).2]) ∧ w = w' := by
  have Hr := hid hr
  clear hr
  go_enter Tryz.func164, Tryz.ntmps164
  go_wp2
  go_loop [4, 5] (fun s i => ∃ (k : Nat) (x : Int), k ≤ xs.length ∧ i = .int .i64 k ∧ s = .int .i64 x ∧ Hid (sumFrom 0 xs = sumFrom x (xs.drop k)) ∧ Hid (mayI x = true)) (fun _ i => xs.length - (RowKit.intOf i).toNat)
  case atStart => exact ⟨0, 0, Nat.zero_le _, rfl, rfl, hid rfl, hid (by decide)⟩
  case round =>
    obtain ⟨k, s, hk, rfl, rfl, hs, hms⟩ := hrel
    obtain ⟨hs1, hs2⟩ := mayI_of hms.out
    by_cases hlt : k < xs.length
    · obtain ⟨b, off, rfl, hc⟩ := Hr.out.int k hlt
      generalize hx : xs.getD k 0 = x at *
      have HX := hid hx
      clear hx
      cases h1 : mayI x
      · have H1 := hid h1
        go_wp2_with (go_at_call 139; refine (rmay_any _ _).mono ?_; rintro e w' ⟨rfl, rfl⟩)
        go_ret2
        exact ⟨ret_i2 (sum_stop hlt HX.out hs.out (by simp [addI, H1.out])).symm, rfl⟩
      · have H1 := hid h1
        obtain ⟨hx1, hx2⟩ := mayI_of h1
        cases h2 : mayI (s + x)
        · have H2 := hid h2
          go_wp2_with (go_at_call 139; refine (rmay_any _ _).mono ?_; rintro e w' ⟨rfl, rfl⟩)
          go_ret2
          exact ⟨ret_i2 (sum_stop hlt HX.out hs.out (by simp [addI, H2.out])).symm, rfl⟩
        · have H2 := hid h2
          go_wp2_with (go_at_call 139; refine (rmay_any _ _).mono ?_; rintro e w' ⟨rfl, rfl⟩)
          go_round
          case rel =>
            have h3 : addI s x = (s + x, 0) := by simp [addI, H1.out, H2.out, hms.out]
            exact ⟨k + 1, _, by omega, by go_num, rfl, hid (by rw [sum_step hlt HX.out hs.out (by rw [h3]), h3]), H2⟩
          case measure => simp [RowKit.intOf]; omega
    · obtain rfl : k = xs.length := by omega
      go_wp2
      go_ret2
      exact ⟨ret_i2 (by rw [hs.out, List.drop_length]; rfl), rfl⟩
theorem wraps_i64 (n : Int) (h₀ : 0 ≤ n) (h₁ : n < 2 ^ 62) : IntKind.i64.wrap n = n := by rw [IntKind.wrap_i64]; omega
theorem and26 (x : Int) (h0 : 0 ≤ x) (h1 : x < 4611686018427387904) : bits .and .i64 x 67108863 = x % 67108864 :=
  bits_mask .i64 62 (by decide) wraps_i64 26 (by decide) x h0 h1
theorem and13 (x : Int) (h0 : 0 ≤ x) (h1 : x < 4611686018427387904) : bits .and .i64 x 8191 = x % 8192 :=
  bits_mask .i64 62 (by decide) wraps_i64 13 (by decide) x h0 h1
theorem or13 (x y : Int) (h0 : 0 ≤ x) (hx : x % 8192 = 0) (h1 : x < 4611686018427387904) (hy0 : 0 ≤ y) (hy : y < 8192) : bits .or .i64 x y = x + y :=
  bits_join .i64 62 (by decide) wraps_i64 13 x y h0 (by omega) h1 hy0 (by omega) (by omega)
theorem idx2_0 (x0 x1 : Value) (w : World) : (Instr.index 266 (.agg #[x0, x1]) (.int .i64 0)).run Tryz.prog w = .ok x0 w := by kernel_rfl
theorem idx2_1 (x0 x1 : Value) (w : World) : (Instr.index 266 (.agg #[x0, x1]) (.int .i64 1)).run Tryz.prog w = .ok x1 w := by kernel_rfl
theorem prod_bd {x y X Y : Int} (h0 : 0 ≤ x) (h1 : x ≤ X) (h2 : 0 ≤ y) (h3 : y ≤ Y) : 0 ≤ x * y ∧ x * y ≤ X * Y :=
  ⟨Int.mul_nonneg h0 h2, Int.mul_le_mul h1 h3 h2 (by omega)⟩
def Words (a n p0 p1 p2 p3 : Int) : Prop :=
  (0 ≤ p0 ∧ p0 < 67108864) ∧ (0 ≤ p1 ∧ p1 < 67108864) ∧ (0 ≤ p2 ∧ p2 < 67108864) ∧ (0 ≤ p3 ∧ p3 < 67108864) ∧
  p0 + p1 * 67108864 + p2 * 4503599627370496 + p3 * 302231454903657293676544 = a * n
def HalvesPost (a n : Int) (w : World) (e : Ending) (w' : World) : Prop :=
  ∃ p0 p1 p2 p3 : Int, e = .returned (.agg #[.int .i64 p0, .int .i64 p1, .int .i64 p2, .int .i64 p3]) ∧ Words a n p0 p1 p2 p3 ∧ Below w.heap.size w w'
theorem words_of {a n x0 x1 y0 y1 s0 s1 s2 : Int} (hA : (x0 = a % 67108864 ∧ x1 = a / 67108864) ∧ y0 = n % 67108864 ∧ y1 = n / 67108864)
    (hS : s0 = x0 * y0 ∧ s1 = x0 * y1 + x1 * y0 ∧ s2 = x1 * y1) (g0 : 0 ≤ s0 ∧ s0 ≤ 4503599627370496) (g1 : 0 ≤ s1 ∧ s1 ≤ 4503599627370496) (g2 : 0 ≤ s2 ∧ s2 ≤ 274877906944) :
    Words a n (s0 % 67108864) ((s1 + s0 / 67108864) % 67108864) ((s2 + (s1 + s0 / 67108864) / 67108864) % 67108864) ((s2 + (s1 + s0 / 67108864) / 67108864) / 67108864) := by
  obtain ⟨⟨h1, h2⟩, h3, h4⟩ := hA
  obtain ⟨k0, k1, k2⟩ := hS
  refine ⟨by omega, by omega, by omega, by omega, ?_⟩
  have ea : a = x1 * 67108864 + x0 := by omega
  have en : n = y1 * 67108864 + y0 := by omega
  have e : a * n = s2 * 4503599627370496 + s1 * 67108864 + s0 := by
    rw [ea, en, k0, k1, k2]
    simp only [Int.add_mul, Int.mul_add]
    have t1 : x1 * 67108864 * (y1 * 67108864) = x1 * y1 * 4503599627370496 := by
      rw [Int.mul_assoc, Int.mul_left_comm 67108864, ← Int.mul_assoc, ← Int.mul_assoc, Int.mul_assoc _ _ 67108864]; rfl
    have t2 : x1 * 67108864 * y0 = x1 * y0 * 67108864 := by rw [Int.mul_right_comm]
    have t3 : x0 * (y1 * 67108864) = x0 * y1 * 67108864 := by rw [Int.mul_assoc]
    rw [t1, t2, t3]; omega
  rw [e]; omega
set_option maxHeartbeats 1000000 in
theorem halves_any (a n : Int) (w : World) (a0 : 0 ≤ a) (a1 : a ≤ 1125899906842624) (n0 : 0 ≤ n) (n1 : n ≤ 1099511627776) :
    Calls Tryz.prog 179 #[.int .i64 a, .int .i64 n] w (HalvesPost a n w) := by
  have e1 := and26 a a0 (by omega)
  have e2 := and26 n n0 (by omega)
  obtain ⟨x0, hx0⟩ : ∃ x, x = a % 67108864 := ⟨_, rfl⟩
  obtain ⟨x1, hx1⟩ : ∃ x, x = a / 67108864 := ⟨_, rfl⟩
  obtain ⟨y0, hy0⟩ : ∃ x, x = n % 67108864 := ⟨_, rfl⟩
  obtain ⟨y1, hy1⟩ : ∃ x, x = n / 67108864 := ⟨_, rfl⟩
  rw [← hx0] at e1
  rw [← hy0] at e2
  have e3 := hx1.symm
  have e4 := hy1.symm
  obtain ⟨b1, b2⟩ := prod_bd (x := x0) (X := 67108863) (y := y0) (Y := 67108863) (by omega) (by omega) (by omega) (by omega)
  obtain ⟨b3, b4⟩ := prod_bd (x := x0) (X := 67108863) (y := y1) (Y := 16384) (by omega) (by omega) (by omega) (by omega)
  obtain ⟨b5, b6⟩ := prod_bd (x := x1) (X := 16777216) (y := y0) (Y := 67108863) (by omega) (by omega) (by omega) (by omega)
  obtain ⟨b7, b8⟩ := prod_bd (x := x1) (X := 16777216) (y := y1) (Y := 16384) (by omega) (by omega) (by omega) (by omega)
  have HA := hid (And.intro (And.intro hx0 hx1) (And.intro hy0 hy1))
  clear hx0 hx1 hy0 hy1
  have i0 := idx2_0
  have i1 := idx2_1
  go_enter Tryz.func179, Tryz.ntmps179
  go_wp2
  iterate 10 ((first | (refine wp_loop_rounds 4 ?_; rw [rounds_succ]) | rw [rounds_succ]); go_wp2)
  obtain ⟨s0, hs0⟩ : ∃ x, x = x0 * y0 := ⟨_, rfl⟩
  obtain ⟨s1, hs1⟩ : ∃ x, x = x0 * y1 + x1 * y0 := ⟨_, rfl⟩
  obtain ⟨s2, hs2⟩ : ∃ x, x = x1 * y1 := ⟨_, rfl⟩
  rw [← hs0, ← hs1, ← hs2]
  have g0 : 0 ≤ s0 ∧ s0 ≤ 4503599627370496 := by omega
  have g1 : 0 ≤ s1 ∧ s1 ≤ 4503599627370496 := by omega
  have g2 : 0 ≤ s2 ∧ s2 ≤ 274877906944 := by omega
  have HS := hid (And.intro hs0 (And.intro hs1 hs2))
  clear hs0 hs1 hs2 b1 b2 b3 b4 b5 b6 b7 b8 e1 e2 e3 e4
  have m0 := and26 s0 (by omega) (by omega)
  have m1 := and26 (s1 + s0 / 67108864) (by omega) (by omega)
  have m2 := and26 (s2 + (s1 + s0 / 67108864) / 67108864) (by omega) (by omega)
  go_region
  go_wp2
  rw [rounds_succ]
  go_wp2
  go_region
  go_wp2
  rw [rounds_succ]
  go_wp2
  go_region
  go_wp2
  rw [rounds_succ]
  go_wp2
  exact bodyPost_ret (v := .agg #[.int .i64 (s0 % 67108864), .int .i64 ((s1 + s0 / 67108864) % 67108864), .int .i64 ((s2 + (s1 + s0 / 67108864) / 67108864) % 67108864), .int .i64 ((s2 + (s1 + s0 / 67108864) / 67108864) / 67108864)]) (by simp [results, Tryz.results179, go_sem]) rfl
    ⟨_, _, _, _, rfl, words_of HA.out HS.out g0 g1 g2, (((Below.refl _ _).alloc (Nat.le_refl _) _).alloc (by simp) _).drew.drew.drew⟩
end Go.Proofs.YtmhbpifhpolghaaGreat
end
