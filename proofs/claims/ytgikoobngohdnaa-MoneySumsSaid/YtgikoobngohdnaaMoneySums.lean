/- MoneySums: sums of many are what the document says. -/
import Derived.Test.YtgikoobngohdnaaMoney7
import Derived.BigRegion
import Derived.Deep.DeepCutAuto
namespace Go.Proofs.Ytgikoobngohdnaa
open Go.RowKit Go.Lib Go.Tk

theorem i64row : (Try.prog.info? 2).map (fun i => (i.zero, i.size, i.bytes)) = some (some (.int .i64 0), 1, 8) := by kernel_rfl

theorem Below.grow {w0 w w' : World} {row : Option Nat} (h : Below w0.heap.size w0 w) (hg : w.grownBy w' row) (hr : ∀ k, row = some k → w0.heap.size ≤ k) : Below w0.heap.size w0 w' :=
  Below.grown h hg h.size hr

set_option maxHeartbeats 1000000 in
theorem sums_walk (a : Option Addr) (len cap : Nat) (zs : List Int) (w : World) (hrow : IsRow .i64 w a len cap zs) :
    Calls Try.prog 7 #[.slice a len cap] w fun e w' => e = .returned (.bool true) ∧ Below w.heap.size w w' := by
  obtain ⟨xs, rfl, hr, hm, hc, -⟩ := hrow.row
  unfold maxLen at hm
  have Hr := hid hr
  have Hc := hid hc
  clear hr hc hrow
  by_cases hl : 200 < xs.length
  · go_enter Try.func7, Try.ntmps7
    go_wp2_with fail
    refine (wakes5 _).mono ?_
    rintro e w4 ⟨rfl, k4⟩
    go_wp2
    go_ret
    exact ⟨rfl, k4⟩
  go_enter Try.func7, Try.ntmps7
  go_wp2_with (at_builtin; refine wpList_append_row rfl _ _ 39 rfl w.heap.size 2 (.int .i64 0) 1 8 Try.underlying39 i64row rfl (by decide) (.slice none 0 0) 0 [] rfl ⟨rfl, .inl ⟨rfl, rfl⟩⟩ a xs.length cap (xs.map (.int .i64)) rfl Hc.out Hr.out (by simp) (by simp [Value.oneCell']) (by unfold maxLen; omega) (by omega) (Nat.le_refl _) ?_; intro v' w1 hown hgrow)
  obtain ⟨a', cap', rfl, hr', -⟩ := row_of_owns hown
  simp only [List.nil_append] at hr'
  have hb1 : Below w.heap.size w w1 := Below.grow (Below.refl _ _) hgrow (fun k h => by simp [Value.ownBlock] at h)
  have Hr' := hid hr'
  clear hr' hown hgrow
  simp only [Nat.zero_add]
  go_wp2_with fail
  refine (sum_any _ _ xs _ Hr'.out hm).mono ?_
  rintro e w2 ⟨rfl, hb2⟩
  go_wp2_with fail
  refine (rsum_any _ _ xs _ (Hr.out.kept (bt hb1 hb2)) hm).mono ?_
  rintro e w' ⟨rfl, rfl⟩
  have hb3 := bt hb1 hb2
  go_wp2
  go_loopw [8] (fun i wr => ∃ k : Nat, k ≤ xs.length ∧ i = .int .i64 k ∧ Below w2.heap.size w2 wr) (fun i _ => xs.length - (intOf i).toNat)
  case atStart => exact ⟨0, Nat.zero_le _, rfl, Below.refl _ _⟩
  case round =>
    obtain ⟨k, hk, rfl, hbel⟩ := hrel
    by_cases hlt : k < xs.length
    · obtain ⟨b, off, rfl, hc⟩ := (Hr.out.kept (bt hb3 hbel)).int k hlt
      obtain ⟨b', off', rfl, hc'⟩ := (Hr'.out.kept (bt hb2 hbel)).int k hlt
      generalize hx : xs.getD k 0 = x at *
      have HX := hid hx
      clear hx
      have hkk : (k : Int) < (xs.length : Int) := by omega
      go_wp2
      go_region
      go_wp2
      go_roundw
      case rel => exact ⟨k + 1, by omega, by go_num, hbel.drew⟩
      case measure => simp [intOf]; omega
    · obtain rfl : k = xs.length := by omega
      go_wp2_with fail
      refine (wakes5 _).mono ?_
      rintro e w4 ⟨rfl, k4⟩
      go_wp2
      go_ret
      exact ⟨rfl, bt (bt hb3 hbel) k4⟩
end Go.Proofs.Ytgikoobngohdnaa
