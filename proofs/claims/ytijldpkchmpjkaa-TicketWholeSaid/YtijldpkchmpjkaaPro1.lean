/- PRORATE: Share told as a row; two lists of amounts held against each other; Index; what is known. -/
import Derived.Test.YtijldpkchmpjkaaShare2
namespace Go.Proofs.Ytijldpkchmpjkaa
open Go.RowKit Go.Lib Go.Tk Go.Sort Go.Shelf

/-- what Share tells: a row -/
def ShareRow (t : Int) (ws : List Int) (w : World) (e : Ending) (w' : World) : Prop :=
  ∃ a cap, e = .returned (.tuple #[.slice a (shareV t ws).length cap, .int .i64 (shareE t ws)]) ∧ Row w' a ((shareV t ws).map (.int .i64)) ∧ Below w.heap.size w w' ∧ (shareV t ws).length ≤ maxLen

theorem share_row (t : Int) (ws : List Int) (a : Option Addr) (n cap : Nat) (w : World) (hn : ws.length = n) (hr : Row w a (ws.map (.int .u32))) (hp : PosRow ws) (hl : ws.length ≤ 9223372036854775807) :
    Calls Try.prog 14 #[.int .i64 t, .slice a n cap] w (ShareRow t ws w) := by
  subst hn
  refine (share_any t ws a cap w hr hp hl).mono ?_
  rintro e w' ⟨v, rfl, ho, hb, _⟩
  obtain ⟨a', cap', rfl, hr', hm⟩ := row_of_owns ho
  exact ⟨a', cap', rfl, hr', hb, hm⟩

theorem drewN_below (w : World) (n : Nat) : Below w.heap.size w (w.drewN n) := ⟨rfl, rfl, rfl, Nat.le_refl _, fun _ _ => rfl⟩

theorem list_ne_at {xs ys : List Int} {k : Nat} (h : xs.getD k 0 ≠ ys.getD k 0) : xs ≠ ys := by intro e; subst e; exact h rfl
theorem list_eq_of {xs ys : List Int} (hl : xs.length = ys.length) (h : ∀ j, j < xs.length → xs.getD j 0 = ys.getD j 0) : xs = ys := by
  refine List.ext_getElem hl fun i h1 h2 => ?_
  have := h i h1
  simpa [List.getD_eq_getElem?_getD, h1, h2] using this

set_option maxHeartbeats 1000000 in
theorem rsame6_any (a b : Option Addr) (n m ca cb : Nat) (xs ys : List Int) (w : World) (hn : xs.length = n) (hm : ys.length = m) (hx : Row w a (xs.map (.int .i64))) (hy : Row w b (ys.map (.int .i64))) (hl : n ≤ 9223372036854775807) (hl2 : m ≤ 9223372036854775807) :
    Calls Try.prog 17 #[.slice a n ca, .slice b m cb] w fun e w' => e = .returned (.bool (decide (xs = ys))) ∧ Below w.heap.size w w' := by
  subst hn
  have HX := hid hx
  have HY := hid hy
  clear hx hy
  by_cases hne : xs.length = m
  · subst hne
    have HM := hid hm
    clear hm
    go_enter Try.func17, Try.ntmps17
    go_wp2
    go_loopw [5] (fun s5 wr => ∃ k : Nat, k ≤ xs.length ∧ s5 = .int .i64 k ∧ Aside (∀ j, j < k → xs.getD j 0 = ys.getD j 0) ∧ Aside (Below w.heap.size w wr)) (fun i _ => xs.length - (intOf i).toNat)
    case atStart => exact ⟨0, Nat.zero_le _, rfl, fun j hj => absurd hj (Nat.not_lt_zero _), Below.refl _ _⟩
    case round =>
      obtain ⟨k, hk, rfl, hj, hb⟩ := hrel
      by_cases hlt : k < xs.length
      · obtain ⟨bx, ox, rfl, hcx⟩ := (HX.out.kept hb.out).int k hlt
        obtain ⟨by', oy, rfl, hcy⟩ := (HY.out.kept hb.out).int k (by rw [HM.out]; exact hlt)
        have p0 : (0 : Int) ≤ (k : Int) := by omega
        have p1 : (k : Int) < (xs.length : Int) := by omega
        have HS := hid (show xs.getD k 0 = xs.getD k 0 from rfl)
        by_cases he : xs.getD k 0 = ys.getD k 0
        · have hj2 : Aside (∀ j, j < k + 1 → xs.getD j 0 = ys.getD j 0) := fun j hj' => by
            rcases Nat.lt_or_eq_of_le (Nat.lt_succ_iff.1 hj') with h | h
            · exact hj.out j h
            · rw [h]; exact he
          rw [← he] at hcy
          clear he HS hj
          generalize xs.getD k 0 = x at hcx hcy
          go_wp2_with fail
          go_region
          go_wp2
          go_roundw
          case measure => simp [intOf]; omega
          case rel => exact ⟨k + 1, by omega, by go_num, hj2, hb.out.drew⟩
        · have hF := hid (list_ne_at he)
          generalize xs.getD k 0 = x at hcx he
          generalize ys.getD k 0 = y at hcy he
          have hbq : (x != y) = true := by rw [bne_iff_ne]; exact he
          have hbe : (x == y) = false := by rw [beq_eq_false_iff_ne]; exact he
          clear he HS hj
          go_wp2_with fail
          go_region
          go_wp2
          go_ret
          exact ⟨ret_bool (by rw [decide_eq_false hF.out]), hb.out.drew⟩
      · obtain rfl : k = xs.length := by omega
        go_wp2
        go_ret
        exact ⟨ret_bool (by rw [decide_eq_true (list_eq_of HM.out.symm hj.out)]), hb.out⟩
  · have hF := hid (show xs ≠ ys by intro e; subst e; exact hne hm)
    have hq : ((xs.length : Int) != (m : Int)) = true := by rw [bne_iff_ne]; omega
    have hq2 : decide (xs.length = m) = false := decide_eq_false hne
    have HN := hid hne
    clear hm hne
    go_enter Try.func17, Try.ntmps17
    go_wp2
    go_ret
    exact ⟨ret_bool (by rw [decide_eq_false hF.out]), Below.refl _ _⟩
end Go.Proofs.Ytijldpkchmpjkaa
