/- TICKET 3: lists of legs and taxes held against each other, and copied. -/
import Derived.Test.YtijldpkchmpjkaaTick2
import Derived.BigQuiet
import Derived.Deep.QuietTactic
namespace Go.Proofs.Ytijldpkchmpjkaa
open Go.RowKit Go.Lib Go.Tk

theorem list_ne_get {α : Type} {l m : List α} {k : Nat} (h1 : k < l.length) (h2 : k < m.length) (h : l[k] ≠ m[k]) : l ≠ m := by intro e; subst e; exact h rfl

set_option maxHeartbeats 1000000 in
theorem eqLeg_any (l m : List Leg) (a b : Option Addr) (n n' ca cb : Nat) (w : World) (hn : l.length = n) (hn' : m.length = n') (hx : Row w a (cellsL encLeg l)) (hy : Row w b (cellsL encLeg m)) (hl : n ≤ 9223372036854775807) (hl' : n' ≤ 9223372036854775807) :
    Calls Try.prog 55 #[.slice a n ca, .slice b n' cb] w fun e w' => e = .returned (.bool (decide (l = m))) ∧ Below w.heap.size w w' := by
  subst hn
  have HX := hid hx
  have HY := hid hy
  clear hx hy
  by_cases hne : l.length = n'
  · subst hne
    have HM := hid hn'
    clear hn'
    go_enter Try.func55, Try.ntmps55
    go_wp2
    go_loopw [13] (fun s5 wr => ∃ k : Nat, k ≤ l.length ∧ s5 = .int .i64 k ∧ Aside (∀ j (h1 : j < l.length) (h2 : j < m.length), j < k → l[j] = m[j]) ∧ Aside (Below w.heap.size w wr)) (fun i _ => l.length - (intOf i).toNat)
    case atStart => exact ⟨0, Nat.zero_le _, rfl, fun j _ _ hj => absurd hj (Nat.not_lt_zero _), Below.refl _ _⟩
    case round =>
      obtain ⟨k, hk, rfl, hj, B⟩ := hrel
      by_cases hlt : k < l.length
      · have hlt2 : k < m.length := by rw [HM.out]; exact hlt
        obtain ⟨bx, ox, rfl, c1, c2, c3⟩ := leg_at (HX.out.kept B.out) hlt
        obtain ⟨by', oy, rfl, d1, d2, d3⟩ := leg_at (HY.out.kept B.out) hlt2
        by_cases he : l[k] = m[k]
        · have hj2 : Aside (∀ j (h1 : j < l.length) (h2 : j < m.length), j < k + 1 → l[j] = m[j]) := fun j h1 h2 hj' => by
            rcases Nat.lt_or_eq_of_le (Nat.lt_succ_iff.1 hj') with h | h
            · exact hj.out j h1 h2 h
            · subst h; exact he
          rw [← he] at d1 d2 d3
          generalize l[k] = x at *
          clear he hj hlt2
          go_wp2_with fail
          go_quiet (fail)
          go_wp2
          go_roundw
          case measure => simp [intOf]; omega
          case rel => exact ⟨k + 1, by omega, by go_num, hj2, bt B.out (drewN_below _ _)⟩
        · have hF := hid (list_ne_get hlt hlt2 he)
          generalize l[k] = x at *
          generalize m[k] = y at *
          obtain ⟨xc, xf, xx⟩ := x
          obtain ⟨yc, yf, yx⟩ := y
          dsimp only at *
          have h3 : (xc ≠ yc) ∨ (xc = yc ∧ xf ≠ yf) ∨ (xc = yc ∧ xf = yf ∧ xx ≠ yx) := by
            by_cases h1 : xc = yc
            · by_cases h2 : xf = yf
              · by_cases h3 : xx = yx
                · subst h1 h2 h3; exact absurd rfl he
                · exact .inr (.inr ⟨h1, h2, h3⟩)
              · exact .inr (.inl ⟨h1, h2⟩)
            · exact .inl h1
          clear he hj
          rcases h3 with h | ⟨rfl, h⟩ | ⟨rfl, rfl, h⟩
          all_goals
            have q1 := beq_eq_false_iff_ne.2 h
            clear h
            go_wp2_with fail
            go_quiet (fail)
            go_wp2
            go_ret
            exact ⟨ret_bool (by rw [decide_eq_false hF.out]), bt B.out (drewN_below _ _)⟩
      · obtain rfl : k = l.length := by omega
        go_wp2
        go_ret
        exact ⟨ret_bool (by rw [decide_eq_true (List.ext_getElem HM.out.symm fun i h1 h2 => hj.out i h1 h2 h1)]), B.out⟩
  · have hF := hid (show l ≠ m by intro e; subst e; exact hne hn')
    have hq : ((l.length : Int) != (n' : Int)) = true := by rw [bne_iff_ne]; omega
    have HN := hid hne
    clear hn' hne
    go_enter Try.func55, Try.ntmps55
    go_wp2
    go_ret
    exact ⟨ret_bool (by rw [decide_eq_false hF.out]), Below.refl _ _⟩
set_option maxHeartbeats 1000000 in
theorem eqTax_any (l m : List Tax) (a b : Option Addr) (n n' ca cb : Nat) (w : World) (hn : l.length = n) (hn' : m.length = n') (hx : Row w a (cellsL encTax l)) (hy : Row w b (cellsL encTax m)) (hl : n ≤ 9223372036854775807) (hl' : n' ≤ 9223372036854775807) :
    Calls Try.prog 56 #[.slice a n ca, .slice b n' cb] w fun e w' => e = .returned (.bool (decide (l = m))) ∧ Below w.heap.size w w' := by
  subst hn
  have HX := hid hx
  have HY := hid hy
  clear hx hy
  by_cases hne : l.length = n'
  · subst hne
    have HM := hid hn'
    clear hn'
    go_enter Try.func56, Try.ntmps56
    go_wp2
    go_loopw [13] (fun s5 wr => ∃ k : Nat, k ≤ l.length ∧ s5 = .int .i64 k ∧ Aside (∀ j (h1 : j < l.length) (h2 : j < m.length), j < k → l[j] = m[j]) ∧ Aside (Below w.heap.size w wr)) (fun i _ => l.length - (intOf i).toNat)
    case atStart => exact ⟨0, Nat.zero_le _, rfl, fun j _ _ hj => absurd hj (Nat.not_lt_zero _), Below.refl _ _⟩
    case round =>
      obtain ⟨k, hk, rfl, hj, B⟩ := hrel
      by_cases hlt : k < l.length
      · have hlt2 : k < m.length := by rw [HM.out]; exact hlt
        obtain ⟨bx, ox, rfl, c1, c2⟩ := tax_at (HX.out.kept B.out) hlt
        obtain ⟨by', oy, rfl, d1, d2⟩ := tax_at (HY.out.kept B.out) hlt2
        by_cases he : l[k] = m[k]
        · have hj2 : Aside (∀ j (h1 : j < l.length) (h2 : j < m.length), j < k + 1 → l[j] = m[j]) := fun j h1 h2 hj' => by
            rcases Nat.lt_or_eq_of_le (Nat.lt_succ_iff.1 hj') with h | h
            · exact hj.out j h1 h2 h
            · subst h; exact he
          rw [← he] at d1 d2
          generalize l[k] = x at *
          clear he hj hlt2
          have q2 := ba_eq x.code
          go_wp2_with fail
          go_quiet (fail)
          go_wp2
          go_roundw
          case measure => simp [intOf]; omega
          case rel => exact ⟨k + 1, by omega, by go_num, hj2, bt B.out (drewN_below _ _)⟩
        · have hF := hid (list_ne_get hlt hlt2 he)
          generalize l[k] = x at *
          generalize m[k] = y at *
          obtain ⟨xc, xf⟩ := x
          obtain ⟨yc, yf⟩ := y
          dsimp only at *
          have h3 : (xc ≠ yc) ∨ (xc = yc ∧ xf ≠ yf) := by
            by_cases h1 : xc = yc
            · by_cases h2 : xf = yf
              · subst h1 h2; exact absurd rfl he
              · exact .inr ⟨h1, h2⟩
            · exact .inl h1
          clear he hj
          rcases h3 with h | ⟨rfl, h⟩
          · have q1 := ba_toList_ne h
            clear h
            go_wp2_with fail
            go_quiet (fail)
            go_wp2
            go_ret
            exact ⟨ret_bool (by rw [decide_eq_false hF.out]), bt B.out (drewN_below _ _)⟩
          · have q1 := beq_eq_false_iff_ne.2 h
            have q2 := ba_eq xc
            clear h
            go_wp2_with fail
            go_quiet (fail)
            go_wp2
            go_ret
            exact ⟨ret_bool (by rw [decide_eq_false hF.out]), bt B.out (drewN_below _ _)⟩
      · obtain rfl : k = l.length := by omega
        go_wp2
        go_ret
        exact ⟨ret_bool (by rw [decide_eq_true (List.ext_getElem HM.out.symm fun i h1 h2 => hj.out i h1 h2 h1)]), B.out⟩
  · have hF := hid (show l ≠ m by intro e; subst e; exact hne hn')
    have hq : ((l.length : Int) != (n' : Int)) = true := by rw [bne_iff_ne]; omega
    have HN := hid hne
    clear hn' hne
    go_enter Try.func56, Try.ntmps56
    go_wp2
    go_ret
    exact ⟨ret_bool (by rw [decide_eq_false hF.out]), Below.refl _ _⟩

end Go.Proofs.Ytijldpkchmpjkaa
