/- COUPON 4: what the document says; the three laws. -/
import Derived.Test.YtgikoobngohdnaaCoup3
import Derived.BigRegion
import Derived.Deep.LoopGhost
namespace Go.Proofs.Ytgikoobngohdnaa
open Go.RowKit Go.Lib Go.Tk Go.Maps

def overB (s : Int) : Bool := decide (4 ≤ s) && decide (s ≤ 7)
theorem overB_is (s : Int) : (isB s && decide (4 ≤ s)) = overB s := by
  unfold isB overB; rw [Bool.eq_iff_iff]; simp; omega

set_option maxHeartbeats 400000 in
theorem free_any (s : Int) (w : World) : Calls Try.prog 18 #[.int .u8 s] w fun e w' => e = .returned (.bool (s == 1)) ∧ w = w' := by
  go_enter Try.func18, Try.ntmps18
  go_wp2
  go_ret
  exact ⟨rfl, rfl⟩
set_option maxHeartbeats 400000 in
theorem ris_any (s : Int) (w : World) : Calls Try.prog 19 #[.int .u8 s] w fun e w' => e = .returned (.bool (isB s)) ∧ w = w' := by
  go_enter Try.func19, Try.ntmps19
  go_wp2
  all_goals (go_ret; refine ⟨ret_bool ?_, rfl⟩; unfold isB; rw [Bool.eq_iff_iff]; simp; omega)
set_option maxHeartbeats 400000 in
theorem rover_any (s : Int) (w : World) : Calls Try.prog 17 #[.int .u8 s] w fun e w' => e = .returned (.bool (overB s)) ∧ w = w' := by
  go_enter Try.func17, Try.ntmps17
  go_wp2
  all_goals (go_ret; refine ⟨ret_bool ?_, rfl⟩; unfold overB; rw [Bool.eq_iff_iff]; simp; omega)
set_option maxHeartbeats 400000 in
theorem rcmd_any (c : Int) (w : World) : Calls Try.prog 36 #[.int .u8 c] w fun e w' => e = .returned (.bool (cmdB c)) ∧ w = w' := by
  go_enter Try.func36, Try.ntmps36
  go_wp2
  all_goals (go_ret; refine ⟨ret_bool ?_, rfl⟩; unfold cmdB; first | (simp_all; done) | (rw [Bool.eq_iff_iff]; simp [*]; omega))
set_option maxHeartbeats 400000 in
theorem rtext_any (s : Int) (w : World) :
    Calls Try.prog 20 #[.int .u8 s] w fun e w' => e = .returned (.string ⟨(textL s).toArray⟩) ∧ w = w' := by
  by_cases h : isB s = true
  · have h1 : 1 ≤ s ∧ s ≤ 7 := by simpa [isB] using h
    obtain ⟨h1, h2⟩ := h1
    have hs : s = 1 ∨ s = 2 ∨ s = 3 ∨ s = 4 ∨ s = 5 ∨ s = 6 ∨ s = 7 := by omega
    rcases hs with rfl | rfl | rfl | rfl | rfl | rfl | rfl
    all_goals
      go_enter Try.func20, Try.ntmps20
      go_wp2_with (go_at_call 19; refine (ris_any _ _).mono ?_; rintro e w' ⟨rfl, rfl⟩)
      go_ret
      exact ⟨rfl, rfl⟩
  · have h : isB s = false := by simpa using h
    have h1 : ¬ (1 ≤ s ∧ s ≤ 7) := by simpa [isB] using h
    go_enter Try.func20, Try.ntmps20
    go_wp2_with (go_at_call 19; refine (ris_any _ _).mono ?_; rintro e w' ⟨rfl, rfl⟩)
    go_ret
    exact ⟨by simp [textL, if_neg h1], rfl⟩

set_option maxHeartbeats 2000000 in
theorem rnext_any (s c : Int) (w : World) :
    Calls Try.prog 15 #[.int .u8 s, .int .u8 c] w fun e w' => e = .returned (.tuple #[.int .u8 (nextI s c).1, .int .i64 (nextI s c).2]) ∧ w = w' := by
  cases hi : isB s
  · go_enter Try.func15, Try.ntmps15
    go_wp2_with (go_at_call 19; refine (ris_any _ _).mono ?_; rintro e w' ⟨rfl, rfl⟩)
    go_ret2
    exact ⟨ret_ui2 (by simp [nextI, hi]), rfl⟩
  cases hk : cmdB c
  · go_enter Try.func15, Try.ntmps15
    go_wp2_with (first | (go_at_call 19; refine (ris_any _ _).mono ?_; rintro e w' ⟨rfl, rfl⟩) | (go_at_call 36; refine (rcmd_any _ _).mono ?_; rintro e w' ⟨rfl, rfl⟩))
    go_ret2
    exact ⟨ret_ui2 (by simp [nextI, hk]), rfl⟩
  have hs : s = 1 ∨ s = 2 ∨ s = 3 ∨ (¬ s = 1 ∧ ¬ s = 2 ∧ ¬ s = 3) := by omega
  rcases hs with rfl | rfl | rfl | ⟨s1, s2, s3⟩
  all_goals
    go_enter Try.func15, Try.ntmps15
    go_wp2_with (first | (go_at_call 19; refine (ris_any _ _).mono ?_; rintro e w' ⟨rfl, rfl⟩) | (go_at_call 36; refine (rcmd_any _ _).mono ?_; rintro e w' ⟨rfl, rfl⟩))
    all_goals (go_ret2; refine ⟨ret_ui2 ?_, rfl⟩; simp only [nextI, hi, hk, Bool.and_self, if_true, toI]; simp_all)

set_option maxHeartbeats 1000000 in
theorem wakes8 (w : World) : Calls Try.prog 13 #[] w fun e w' => e = .returned (.bool true) ∧ Below w.heap.size w w' := by
  have n1 : nextI 1 9 = (2, 0) := by decide
  have n2 : nextI 1 12 = (0, 6) := by decide
  have n3 : (isB 5 && decide ((4 : Int) ≤ 5)) = true := by decide
  have n4 : textL 4 = [70] := by decide
  go_enter Try.func13, Try.ntmps13
  go_wp2_with fail
  refine (next_any _ _ _ (by decide) (by decide)).mono ?_
  rintro e w1 ⟨rfl, hb1⟩
  go_wp2_with fail
  refine (next_any _ _ _ (by decide) (by decide)).mono ?_
  rintro e w2 ⟨rfl, hb2⟩
  go_wp2_with fail
  refine (over_any _ _).mono ?_
  rintro e w' ⟨rfl, rfl⟩
  rw [n3]
  go_wp2_with fail
  refine (text_any _ _).mono ?_
  rintro e w' ⟨rfl, rfl⟩
  go_wp2
  go_ret
  exact ⟨rfl, bt hb1 hb2⟩

set_option maxHeartbeats 1000000 in
theorem texts_any (a b : Int) (w : World) : Calls Try.prog 3 #[.int .u8 a, .int .u8 b] w fun e w' => e = .returned (.bool true) ∧ Below w.heap.size w w' := by
  cases ha : isB a
  · have hta : textL a = [] := by simp [textL]; simp [isB] at ha; omega
    have HTA := hid hta
    clear hta
    go_enter Try.func3, Try.ntmps3
    go_wp2_with fail
    refine (text_any _ _).mono ?_
    rintro e w' ⟨rfl, rfl⟩
    rw [HTA.out]
    go_wp2_with fail
    refine (text_any _ _).mono ?_
    rintro e w' ⟨rfl, rfl⟩
    go_wp2_with (first | (go_at_call 12; refine (is_any _ _).mono ?_; rintro e w' ⟨rfl, rfl⟩) | (go_at_call 13; refine (wakes8 _).mono ?_; rintro e w' ⟨rfl, hb⟩))
    go_ret
    exact ⟨rfl, hb⟩
  have hta : ∃ c, textL a = [c] := by
    have : a = 1 ∨ a = 2 ∨ a = 3 ∨ a = 4 ∨ a = 5 ∨ a = 6 ∨ a = 7 := by simp [isB] at ha; omega
    rcases this with rfl | rfl | rfl | rfl | rfl | rfl | rfl <;> exact ⟨_, rfl⟩
  obtain ⟨c, hta⟩ := hta
  have HTA := hid hta
  cases hb : isB b
  · clear hta
    go_enter Try.func3, Try.ntmps3
    go_wp2_with fail
    refine (text_any _ _).mono ?_
    rintro e w' ⟨rfl, rfl⟩
    rw [HTA.out]
    go_wp2_with fail
    refine (text_any _ _).mono ?_
    rintro e w' ⟨rfl, rfl⟩
    go_wp2_with (first | (go_at_call 12; refine (is_any _ _).mono ?_; rintro e w' ⟨rfl, rfl⟩) | (go_at_call 13; refine (wakes8 _).mono ?_; rintro e w' ⟨rfl, hb⟩))
    go_ret
    exact ⟨rfl, hb⟩
  · have htb : ∃ d, textL b = [d] ∧ (c == d) = (a == b) := by
      have h1 : a = 1 ∨ a = 2 ∨ a = 3 ∨ a = 4 ∨ a = 5 ∨ a = 6 ∨ a = 7 := by simp [isB] at ha; omega
      have h2 : b = 1 ∨ b = 2 ∨ b = 3 ∨ b = 4 ∨ b = 5 ∨ b = 6 ∨ b = 7 := by simp [isB] at hb; omega
      rcases h1 with rfl | rfl | rfl | rfl | rfl | rfl | rfl <;> rcases h2 with rfl | rfl | rfl | rfl | rfl | rfl | rfl <;> (cases hta; exact ⟨_, rfl, rfl⟩)
    obtain ⟨d, htb, hcd⟩ := htb
    have HTB := hid htb
    clear hta htb
    go_enter Try.func3, Try.ntmps3
    go_wp2_with fail
    refine (text_any _ _).mono ?_
    rintro e w' ⟨rfl, rfl⟩
    rw [HTA.out]
    go_wp2_with fail
    refine (text_any _ _).mono ?_
    rintro e w' ⟨rfl, rfl⟩
    rw [HTB.out]
    go_wp2_with (first | (go_at_call 12; refine (is_any _ _).mono ?_; rintro e w' ⟨rfl, rfl⟩) | (go_at_call 13; refine (wakes8 _).mono ?_; rintro e w' ⟨rfl, hb1⟩))
    go_ret
    exact ⟨rfl, hb1⟩

theorem texts_walk (a b : Int) (w : World) (_wa : (Lit.int .u8 a).wf = true) (_wb : (Lit.int .u8 b).wf = true) :
    Calls Try.prog 3 #[.int .u8 a, .int .u8 b] w fun e w' => e = .returned (.bool true) ∧ Below w.heap.size w w' := texts_any a b w

set_option maxHeartbeats 1000000 in
theorem ctells_walk (s c : Int) (w : World) (ws : (Lit.int .u8 s).wf = true) (wc : (Lit.int .u8 c).wf = true) :
    Calls Try.prog 4 #[.int .u8 s, .int .u8 c] w fun e w' => e = .returned (.bool true) ∧ Below w.heap.size w w' := by
  have Hs := hid ws
  have Hc := hid wc
  clear ws wc
  go_enter Try.func4, Try.ntmps4
  go_wp2_with fail
  refine (next_any _ _ _ Hs.out Hc.out).mono ?_
  rintro e w1 ⟨rfl, hb1⟩
  go_wp2_with fail
  refine (rnext_any _ _ _).mono ?_
  rintro e w' ⟨rfl, rfl⟩
  go_wp2_with fail
  refine (over_any _ _).mono ?_
  rintro e w' ⟨rfl, rfl⟩
  rw [overB_is]
  go_wp2_with fail
  refine (rover_any _ _).mono ?_
  rintro e w' ⟨rfl, rfl⟩
  go_wp2_with fail
  refine (free_any _ _).mono ?_
  rintro e w' ⟨rfl, rfl⟩
  go_wp2_with fail
  refine (is_any _ _).mono ?_
  rintro e w' ⟨rfl, rfl⟩
  go_wp2_with fail
  refine (ris_any _ _).mono ?_
  rintro e w' ⟨rfl, rfl⟩
  go_wp2_with fail
  refine (text_any _ _).mono ?_
  rintro e w' ⟨rfl, rfl⟩
  go_wp2_with fail
  refine (rtext_any _ _).mono ?_
  rintro e w' ⟨rfl, rfl⟩
  go_wp2_with fail
  refine (wakes8 _).mono ?_
  rintro e w2 ⟨rfl, hb2⟩
  go_wp2
  go_ret
  exact ⟨rfl, bt hb1 hb2⟩

theorem toI_cases {s c v : Int} (h : toI s c = some v) : (s = 1 ∧ v = 2) ∨ (s = 2 ∧ v = 1) ∨ (s = 2 ∧ v = 3) ∨ (s = 3 ∧ v = 4) ∨ (s = 1 ∧ v = 5) ∨ (s = 1 ∧ v = 6) ∨ (s = 1 ∧ v = 7) := by
  unfold toI at h
  by_cases h1 : s = 1 ∧ c = 9
  · rw [if_pos h1] at h; cases h; omega
  by_cases h2 : s = 2 ∧ c = 10
  · rw [if_neg h1, if_pos h2] at h; cases h; omega
  by_cases h3 : s = 2 ∧ c = 11
  · rw [if_neg h1, if_neg h2, if_pos h3] at h; cases h; omega
  by_cases h4 : s = 3 ∧ c = 12
  · rw [if_neg h1, if_neg h2, if_neg h3, if_pos h4] at h; cases h; omega
  by_cases h5 : s = 1 ∧ c = 3
  · rw [if_neg h1, if_neg h2, if_neg h3, if_neg h4, if_pos h5] at h; cases h; omega
  by_cases h6 : s = 1 ∧ c = 4
  · rw [if_neg h1, if_neg h2, if_neg h3, if_neg h4, if_neg h5, if_pos h6] at h; cases h; omega
  by_cases h7 : s = 1 ∧ c = 5
  · rw [if_neg h1, if_neg h2, if_neg h3, if_neg h4, if_neg h5, if_neg h6, if_pos h7] at h; cases h; omega
  · rw [if_neg h1, if_neg h2, if_neg h3, if_neg h4, if_neg h5, if_neg h6, if_neg h7] at h; cases h

theorem next_cases {s : Int} (h : isB s = true) (c : Int) : nextI s c = (0, 1) ∨ nextI s c = (0, 6) ∨ ∃ v, nextI s c = (v, 0) ∧ ((s = 1 ∧ v = 2) ∨ (s = 2 ∧ v = 1) ∨ (s = 2 ∧ v = 3) ∨ (s = 3 ∧ v = 4) ∨ (s = 1 ∧ v = 5) ∨ (s = 1 ∧ v = 6) ∨ (s = 1 ∧ v = 7)) := by
  unfold nextI
  cases hc : cmdB c
  · simp
  · simp only [h, Bool.and_self, if_true]
    cases ht : toI s c with
    | none => simp
    | some v => right; right; exact ⟨v, rfl, toI_cases ht⟩

theorem wf8 {a : Int} (h : (Lit.int .u8 a).wf = true) : 0 ≤ a ∧ a ≤ 255 := by
  simpa [Lit.wf, IntKind.min, IntKind.max, IntKind.signed, IntKind.bits] using h
theorem wf8_mk {a : Int} (h : 0 ≤ a ∧ a ≤ 255) : (Lit.int .u8 a).wf = true := by
  simpa [Lit.wf, IntKind.min, IntKind.max, IntKind.signed, IntKind.bits] using h

theorem list_getD_mem {xs : List Int} {n : Nat} (h : n < xs.length) : xs.getD n 0 ∈ xs := by
  rw [List.getD_eq_getElem?_getD, List.getElem?_eq_getElem h]; exact List.getElem_mem h

set_option maxRecDepth 100000 in
set_option maxHeartbeats 4000000 in
theorem once_walk (l : Option Addr) (len cap : Nat) (zs : List Int) (w : World) (hrow : IsRow .u8 w l len cap zs) :
    Calls Try.prog 5 #[.slice l len cap] w fun e w' => e = .returned (.bool true) ∧ Below w.heap.size w w' := by
  obtain ⟨xs, rfl, hr, hm, hc, hwf⟩ := hrow.row
  unfold maxLen at hm
  have Hr := hid hr
  have Hwf := hid hwf
  clear hr hc hrow hwf
  by_cases hl : 500 < xs.length
  · go_enter Try.func5, Try.ntmps5
    go_wp2_with fail
    refine (wakes8 _).mono ?_
    rintro e w4 ⟨rfl, k4⟩
    go_wp2
    go_ret
    exact ⟨rfl, k4⟩
  go_enter Try.func5, Try.ntmps5
  go_wp2
  go_loopg [3, 4, 5] xs.length (fun g x y z wr => ∃ (n : Nat) (s en : Int), n ≤ xs.length ∧ g = xs.length - n ∧ z = .int .i64 n ∧ x = .int .u8 s ∧ y = .int .i64 en ∧ 1 ≤ s ∧ s ≤ 7 ∧ ((s < 4 ∧ en = 0) ∨ (4 ≤ s ∧ en = 1)) ∧ Below w.heap.size w wr)
  case atStart => exact ⟨0, 1, 0, Nat.zero_le _, rfl, rfl, rfl, rfl, by omega, by omega, by omega, Below.refl _ _⟩
  case round =>
    obtain ⟨n, s, en, hn, rfl, rfl, rfl, rfl, s1, s7, hen, hbel⟩ := hrel
    have his : isB s = true := by simp [isB]; omega
    have wfs : (Lit.int .u8 s).wf = true := wf8_mk (by omega)
    have Wfs := hid wfs
    clear wfs
    by_cases hlt : n < xs.length
    · obtain ⟨b, off, rfl, hc⟩ := (Hr.out.kept hbel).int n hlt
      have hwx := Hwf.out _ (list_getD_mem hlt)
      generalize hx : xs.getD n 0 = x at *
      have HX := hid hwx
      clear hx hwx
      rcases next_cases his x with hnx | hnx | ⟨v, hnx, hv⟩
      · clear his
        go_wp2_with fail
        refine (next_any _ _ _ Wfs.out HX.out).mono ?_
        rintro e w1 ⟨rfl, hb1⟩
        go_wp2
        go_roundg (xs.length - (n + 1))
        case measure => omega
        case rel => exact ⟨n + 1, s, en, by omega, rfl, by go_num, rfl, rfl, s1, s7, hen, bt hbel hb1⟩
      · clear his
        go_wp2_with fail
        refine (next_any _ _ _ Wfs.out HX.out).mono ?_
        rintro e w1 ⟨rfl, hb1⟩
        go_wp2
        go_roundg (xs.length - (n + 1))
        case measure => omega
        case rel => exact ⟨n + 1, s, en, by omega, rfl, by go_num, rfl, rfl, s1, s7, hen, bt hbel hb1⟩
      · clear his
        rcases hv with ⟨rfl, rfl⟩ | ⟨rfl, rfl⟩ | ⟨rfl, rfl⟩ | ⟨rfl, rfl⟩ | ⟨rfl, rfl⟩ | ⟨rfl, rfl⟩ | ⟨rfl, rfl⟩
        all_goals
          obtain rfl : en = 0 := by omega
          have v1 : isB 1 = true := by decide
          have v2 : isB 2 = true := by decide
          have v3 : isB 3 = true := by decide
          have v4 : isB 4 = true := by decide
          have v5 : isB 5 = true := by decide
          have v6 : isB 6 = true := by decide
          have v7 : isB 7 = true := by decide
          go_wp2_with fail
          refine (next_any _ _ _ Wfs.out HX.out).mono ?_
          rintro e w1 ⟨rfl, hb1⟩
          go_wp2_with (first | (go_at_call 12; refine (is_any _ _).mono ?_; rintro e w' ⟨rfl, rfl⟩) | (go_at_call 16; refine (over_any _ _).mono ?_; rintro e w' ⟨rfl, rfl⟩) | (go_at_call 18; refine (free_any _ _).mono ?_; rintro e w' ⟨rfl, rfl⟩))
          go_roundg (xs.length - (n + 1))
          case measure => omega
          case rel => exact ⟨n + 1, _, _, by omega, rfl, by go_num, rfl, rfl, by omega, by omega, by omega, bt hbel hb1⟩
    · obtain rfl : n = xs.length := by omega
      rcases hen with ⟨hs4, rfl⟩ | ⟨hs4, rfl⟩
      · have ho : (isB s && decide (4 ≤ s)) = false := by simp [isB]; omega
        have HO := hid ho
        clear ho
        go_wp2_with fail
        refine (over_any _ _).mono ?_
        rintro e w' ⟨rfl, rfl⟩
        rw [HO.out]
        go_wp2_with fail
        refine (wakes8 _).mono ?_
        rintro e w1 ⟨rfl, hb1⟩
        go_wp2
        go_ret
        exact ⟨rfl, bt hbel hb1⟩
      · have ho : (isB s && decide (4 ≤ s)) = true := by simp [isB]; omega
        have HO := hid ho
        clear ho
        go_wp2_with fail
        refine (over_any _ _).mono ?_
        rintro e w' ⟨rfl, rfl⟩
        rw [HO.out]
        go_wp2_with fail
        refine (wakes8 _).mono ?_
        rintro e w1 ⟨rfl, hb1⟩
        go_wp2
        go_ret
        exact ⟨rfl, bt hbel hb1⟩
end Go.Proofs.Ytgikoobngohdnaa
