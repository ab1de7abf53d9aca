/- MONEY 1: may, told, Check, Add, Sub, Sum and what the document says of them. -/
import Derived.Test.YtijldpkchmpjkaaRows
import Derived.Test.YtijldpkchmpjkaaBase
namespace Go.Proofs.Ytijldpkchmpjkaa
open Go.RowKit Go.Lib Go.Tk
def mayI (x : Int) : Bool := decide (-1125899906842624 ≤ x) && decide (x ≤ 1125899906842624)

theorem all_take_succ {p : Int → Bool} {xs : List Int} {k : Nat} (h : k < xs.length) : (xs.take (k + 1)).all p = ((xs.take k).all p && p (xs.getD k 0)) := by
  rw [List.take_succ_eq_append_getElem h, List.all_append]; simp [List.getD_eq_getElem?_getD, h]

set_option maxHeartbeats 400000 in
theorem may_any (a : Option Addr) (cap : Nat) (xs : List Int) (w : World) (hr : Row w a (xs.map (.int .i64))) (hm : xs.length ≤ 9223372036854775807) :
    Calls Try.prog 39 #[.slice a xs.length cap] w fun e w' => e = .returned (.bool (xs.all mayI)) ∧ w = w' := by
  have Hr := hid hr
  clear hr
  go_enter Try.func39, Try.ntmps39
  go_wp2
  go_loop [7] (fun i => ∃ k : Nat, k ≤ xs.length ∧ i = .int .i64 k ∧ Hid ((xs.take k).all mayI = true)) (fun i => xs.length - (intOf i).toNat)
  case atStart => exact ⟨0, Nat.zero_le _, rfl, hid (by simp)⟩
  case round =>
    obtain ⟨k, hk, rfl, hall⟩ := hrel
    by_cases hlt : k < xs.length
    · obtain ⟨b, off, rfl, hc⟩ := Hr.out.int k hlt
      have HT := hid (all_take_succ (p := mayI) hlt)
      generalize hx : xs.getD k 0 = x at *
      have HX := hid hx
      clear hx
      go_wp2
      all_goals first
        | (go_ret
           have h2 : xs.all mayI = false := by
             rw [← Bool.not_eq_true]; intro h
             rw [List.all_eq_true] at h
             have := h x (by rw [← HX.out, List.getD_eq_getElem?_getD, List.getElem?_eq_getElem hlt]; simp)
             simp [mayI] at this; omega
           exact ⟨ret_bool h2.symm, rfl⟩)
        | (go_round
           case rel => exact ⟨k + 1, by omega, by go_num, hid (by rw [HT.out, hall.out]; simp [mayI]; omega)⟩
           case measure => simp [intOf]; omega)
    · obtain rfl : k = xs.length := by omega
      go_wp2
      go_ret
      exact ⟨ret_bool (by rw [← hall.out, List.take_length]), rfl⟩

theorem mayI_of {x : Int} (h : mayI x = true) : -1125899906842624 ≤ x ∧ x ≤ 1125899906842624 := by simpa [mayI] using h

def valI (x : Int) : Int := if mayI x then x else 0
def errI (x : Int) : Int := if mayI x then 0 else 7
def addI (a b : Int) : Int × Int := if mayI a && mayI b && mayI (a + b) then (a + b, 0) else (0, 7)
def subI (a b : Int) : Int × Int := if mayI a && mayI b && mayI (a - b) then (a - b, 0) else (0, 7)

set_option maxHeartbeats 400000 in
theorem told_no (x : Int) (w : World) :
    Calls Try.prog 35 #[.int .i64 x, .bool false] w fun e w' => e = .returned (.tuple #[.int .i64 0, .int .i64 7]) ∧ w = w' := by
  go_enter Try.func35, Try.ntmps35
  go_wp2
  go_ret2
  exact ⟨rfl, rfl⟩

set_option maxHeartbeats 400000 in
theorem told_yes (x : Int) (w : World) :
    Calls Try.prog 35 #[.int .i64 x, .bool true] w fun e w' => e = .returned (.tuple #[.int .i64 (valI x), .int .i64 (errI x)]) ∧ Below w.heap.size w w' := by
  have hb : Below w.heap.size w (w.alloc (.cells #[.int .i64 x] 2)) := (Below.refl _ _).alloc (Nat.le_refl _) _
  cases hx : mayI x
  all_goals
    go_enter Try.func35, Try.ntmps35
    go_wp2_with (go_at_call 39; refine (may_any _ _ [x] _ row_lit (by simp)).mono ?_; rintro e w' ⟨rfl, rfl⟩)
    go_ret2
    exact ⟨ret_i2 (by simp [valI, errI, hx]), hb⟩

set_option maxHeartbeats 400000 in
theorem check_any (x : Int) (w : World) :
    Calls Try.prog 15 #[.int .i64 x] w fun e w' => e = .returned (.int .i64 (errI x)) ∧ Below w.heap.size w w' := by
  go_enter Try.func15, Try.ntmps15
  go_wp2_with (go_at_call 35; refine (told_yes _ _).mono ?_; rintro e w' ⟨rfl, hb⟩)
  go_ret
  exact ⟨rfl, hb⟩

set_option maxHeartbeats 400000 in
theorem add_any (a b : Int) (w : World) :
    Calls Try.prog 38 #[.int .i64 a, .int .i64 b] w fun e w' => e = .returned (.tuple #[.int .i64 (addI a b).1, .int .i64 (addI a b).2]) ∧ Below w.heap.size w w' := by
  have hb : Below w.heap.size w (w.alloc (.cells #[.int .i64 a, .int .i64 b] 2)) := (Below.refl _ _).alloc (Nat.le_refl _) _
  cases hx : mayI a && mayI b
  · have hh := hid hx
    clear hx
    go_enter Try.func38, Try.ntmps38
    go_wp2_with (first | (go_at_call 39; refine (may_any _ _ [a, b] _ row_lit (by simp)).mono ?_; rw [show [a, b].all mayI = false by simpa using hh.out]; rintro e w' ⟨rfl, rfl⟩) | (go_at_call 35; refine (told_no _ _).mono ?_; rintro e w' ⟨rfl, rfl⟩))
    go_ret2
    exact ⟨ret_i2 (by simp [addI, hh.out]), hb⟩
  · have hh := hid hx
    rw [Bool.and_eq_true] at hx
    obtain ⟨h1, h2⟩ := mayI_of hx.1
    obtain ⟨h3, h4⟩ := mayI_of hx.2
    clear hx
    go_enter Try.func38, Try.ntmps38
    go_wp2_with (first | (go_at_call 39; refine (may_any _ _ [a, b] _ row_lit (by simp)).mono ?_; rw [show [a, b].all mayI = true by simpa using hh.out]; rintro e w' ⟨rfl, rfl⟩) | (go_at_call 35; refine (told_yes _ _).mono ?_; rintro e w' ⟨rfl, hb1⟩))
    go_ret2
    exact ⟨ret_i2 (by simp only [addI, valI, errI, hh.out, Bool.true_and]; split <;> rfl), hb.trans (hb1.mono (by simp))⟩

set_option maxHeartbeats 400000 in
theorem sub_any (a b : Int) (w : World) :
    Calls Try.prog 60 #[.int .i64 a, .int .i64 b] w fun e w' => e = .returned (.tuple #[.int .i64 (subI a b).1, .int .i64 (subI a b).2]) ∧ Below w.heap.size w w' := by
  have hb : Below w.heap.size w (w.alloc (.cells #[.int .i64 a, .int .i64 b] 2)) := (Below.refl _ _).alloc (Nat.le_refl _) _
  cases hx : mayI a && mayI b
  · have hh := hid hx
    clear hx
    go_enter Try.func60, Try.ntmps60
    go_wp2_with (first | (go_at_call 39; refine (may_any _ _ [a, b] _ row_lit (by simp)).mono ?_; rw [show [a, b].all mayI = false by simpa using hh.out]; rintro e w' ⟨rfl, rfl⟩) | (go_at_call 35; refine (told_no _ _).mono ?_; rintro e w' ⟨rfl, rfl⟩))
    go_ret2
    exact ⟨ret_i2 (by simp [subI, hh.out]), hb⟩
  · have hh := hid hx
    rw [Bool.and_eq_true] at hx
    obtain ⟨h1, h2⟩ := mayI_of hx.1
    obtain ⟨h3, h4⟩ := mayI_of hx.2
    clear hx
    go_enter Try.func60, Try.ntmps60
    go_wp2_with (first | (go_at_call 39; refine (may_any _ _ [a, b] _ row_lit (by simp)).mono ?_; rw [show [a, b].all mayI = true by simpa using hh.out]; rintro e w' ⟨rfl, rfl⟩) | (go_at_call 35; refine (told_yes _ _).mono ?_; rintro e w' ⟨rfl, hb1⟩))
    go_ret2
    exact ⟨ret_i2 (by simp only [subI, valI, errI, hh.out, Bool.true_and]; split <;> rfl), hb.trans (hb1.mono (by simp))⟩

set_option maxHeartbeats 400000 in
theorem rmay_any (x : Int) (w : World) :
    Calls Try.prog 36 #[.int .i64 x] w fun e w' => e = .returned (.bool (mayI x)) ∧ w = w' := by
  go_enter Try.func36, Try.ntmps36
  go_wp2
  all_goals (go_ret; refine ⟨ret_bool ?_, rfl⟩; unfold mayI; rw [Bool.eq_iff_iff]; simp; omega)

def sumFrom : Int → List Int → Int × Int
  | s, [] => (s, 0)
  | s, x :: r => if (addI s x).2 = 0 then sumFrom (addI s x).1 r else (0, 7)

theorem addI_cases (s x : Int) : ((addI s x).2 = 0 ∧ mayI s = true ∧ mayI x = true ∧ mayI (s + x) = true ∧ (addI s x).1 = s + x) ∨ ((addI s x).2 = 7 ∧ (addI s x).1 = 0 ∧ (mayI s && mayI x && mayI (s + x)) = false) := by
  unfold addI; split
  · rename_i h; simp at h; simp [h]
  · rename_i h; simp only [Bool.not_eq_true] at h; exact .inr ⟨rfl, rfl, h⟩

theorem sum_step {s x : Int} {k : Nat} {xs : List Int} (hlt : k < xs.length) (hx : xs.getD k 0 = x) (hs : sumFrom 0 xs = sumFrom s (xs.drop k)) (h0 : (addI s x).2 = 0) :
    sumFrom 0 xs = sumFrom (addI s x).1 (xs.drop (k + 1)) := by
  rw [hs, drop_step hlt, hx, sumFrom, if_pos h0]
theorem sum_stop {s x : Int} {k : Nat} {xs : List Int} (hlt : k < xs.length) (hx : xs.getD k 0 = x) (hs : sumFrom 0 xs = sumFrom s (xs.drop k)) (h0 : (addI s x).2 ≠ 0) :
    sumFrom 0 xs = (0, 7) := by
  rw [hs, drop_step hlt, hx, sumFrom, if_neg h0]

set_option maxHeartbeats 400000 in
theorem sum_any (a : Option Addr) (cap : Nat) (xs : List Int) (w : World) (hr : Row w a (xs.map (.int .i64))) (hm : xs.length ≤ 9223372036854775807) :
    Calls Try.prog 19 #[.slice a xs.length cap] w fun e w' => e = .returned (.tuple #[.int .i64 (sumFrom 0 xs).1, .int .i64 (sumFrom 0 xs).2]) ∧ Below w.heap.size w w' := by
  have Hr := hid hr
  clear hr
  go_enter Try.func19, Try.ntmps19
  go_wp2
  go_loopw [4, 11] (fun s i wr => ∃ (k : Nat) (x : Int), k ≤ xs.length ∧ i = .int .i64 k ∧ s = .int .i64 x ∧ Hid (sumFrom 0 xs = sumFrom x (xs.drop k)) ∧ Below w.heap.size w wr) (fun _ i _ => xs.length - (intOf i).toNat)
  case atStart => exact ⟨0, 0, Nat.zero_le _, rfl, rfl, hid rfl, Below.refl _ _⟩
  case round =>
    obtain ⟨k, s, hk, rfl, rfl, hs, hbel⟩ := hrel
    by_cases hlt : k < xs.length
    · obtain ⟨b, off, rfl, hc⟩ := (Hr.out.kept hbel).int k hlt
      generalize hx : xs.getD k 0 = x at *
      have HX := hid hx
      clear hx
      rcases addI_cases s x with ⟨h0, -, -, -, h1⟩ | ⟨h0, h1, -⟩
      · have hne : ((addI s x).2 != 0) = false := by simp [h0]
        have H0 := hid h0
        clear h0 h1
        go_wp2_with (go_at_call 38; refine (add_any _ _ _).mono ?_; rintro e w' ⟨rfl, hb1⟩)
        go_roundw
        case rel => exact ⟨k + 1, _, by omega, by go_num, rfl, hid (sum_step hlt HX.out hs.out H0.out), hbel.trans (hb1.mono hbel.size)⟩
        case measure => simp [intOf]; omega
      · have hne : ((addI s x).2 != 0) = true := by simp [h0]
        have H0 := hid h0
        clear h0 h1
        go_wp2_with (go_at_call 38; refine (add_any _ _ _).mono ?_; rintro e w' ⟨rfl, hb1⟩)
        go_ret2
        exact ⟨ret_i2 (by rw [sum_stop hlt HX.out hs.out (by rw [H0.out]; decide), H0.out]), hbel.trans (hb1.mono hbel.size)⟩
    · obtain rfl : k = xs.length := by omega
      go_wp2
      go_ret2
      exact ⟨ret_i2 (by rw [hs.out, List.drop_length]; rfl), hbel⟩
end Go.Proofs.Ytijldpkchmpjkaa
