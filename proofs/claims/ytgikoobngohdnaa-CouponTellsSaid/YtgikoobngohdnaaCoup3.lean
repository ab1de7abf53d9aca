/- COUPON 3: Is, Over, Text, Next. -/
import Derived.Test.YtgikoobngohdnaaCoup2
namespace Go.Proofs.Ytgikoobngohdnaa
open Go.RowKit Go.Lib Go.Tk Go.Maps

def isB (s : Int) : Bool := decide (1 ≤ s) && decide (s ≤ 7)
def signs : List UInt8 := [79, 67, 66, 70, 86, 82, 69]
def textL (s : Int) : List UInt8 := if 1 ≤ s ∧ s ≤ 7 then (signs.drop (s - 1).toNat).take 1 else []


set_option maxHeartbeats 400000 in
theorem is_any (s : Int) (w : World) :
    Calls Try.prog 12 #[.int .u8 s] w fun e w' => e = .returned (.bool (isB s)) ∧ w = w' := by
  go_enter Try.func12, Try.ntmps12
  go_wp2
  all_goals (go_ret; refine ⟨ret_bool ?_, rfl⟩; unfold isB; rw [Bool.eq_iff_iff]; simp; omega)

set_option maxHeartbeats 400000 in
theorem over_any (s : Int) (w : World) :
    Calls Try.prog 16 #[.int .u8 s] w fun e w' => e = .returned (.bool (isB s && decide (4 ≤ s))) ∧ w = w' := by
  by_cases h : isB s = true
  · have hg : 4 ≤ s ∨ s < 4 := by omega
    rcases hg with hg | hg
    all_goals
      go_enter Try.func16, Try.ntmps16
      go_wp2_with (go_at_call 12; refine (is_any _ _).mono ?_; rintro e w' ⟨rfl, rfl⟩)
      go_ret
      exact ⟨by simp [h, hg], rfl⟩
  · have h : isB s = false := by simpa using h
    go_enter Try.func16, Try.ntmps16
    go_wp2_with (go_at_call 12; refine (is_any _ _).mono ?_; rintro e w' ⟨rfl, rfl⟩)
    go_ret
    exact ⟨by simp [h], rfl⟩

set_option maxHeartbeats 400000 in
theorem text_any (s : Int) (w : World) :
    Calls Try.prog 11 #[.int .u8 s] w fun e w' => e = .returned (.string ⟨(textL s).toArray⟩) ∧ w = w' := by
  by_cases h : isB s = true
  · have h1 : 1 ≤ s ∧ s ≤ 7 := by simpa [isB] using h
    obtain ⟨h1, h2⟩ := h1
    have hs : s = 1 ∨ s = 2 ∨ s = 3 ∨ s = 4 ∨ s = 5 ∨ s = 6 ∨ s = 7 := by omega
    rcases hs with rfl | rfl | rfl | rfl | rfl | rfl | rfl
    all_goals
      go_enter Try.func11, Try.ntmps11
      go_wp2_with (go_at_call 12; refine (is_any _ _).mono ?_; rintro e w' ⟨rfl, rfl⟩)
      go_ret
      exact ⟨rfl, rfl⟩
  · have h : isB s = false := by simpa using h
    have h1 : ¬ (1 ≤ s ∧ s ≤ 7) := by simpa [isB] using h
    go_enter Try.func11, Try.ntmps11
    go_wp2_with (go_at_call 12; refine (is_any _ _).mono ?_; rintro e w' ⟨rfl, rfl⟩)
    go_ret
    exact ⟨by simp [textL, if_neg h1], rfl⟩

def cmdB (c : Int) : Bool := c == 9 || c == 10 || c == 11 || c == 12 || c == 3 || c == 4 || c == 5
theorem hasCmd_ways (c : Int) : hasCmd waysL c = cmdB c := by
  unfold hasCmd cmdB waysL
  rw [Bool.eq_iff_iff]
  simp only [List.any_cons, List.any_nil, Bool.or_false, Bool.or_eq_true, beq_iff_eq]
  omega

/-- where a command leads -/
def toI (s c : Int) : Option Int :=
  if s = 1 ∧ c = 9 then some 2 else if s = 2 ∧ c = 10 then some 1 else if s = 2 ∧ c = 11 then some 3 else if s = 3 ∧ c = 12 then some 4
  else if s = 1 ∧ c = 3 then some 5 else if s = 1 ∧ c = 4 then some 6 else if s = 1 ∧ c = 5 then some 7 else none
theorem lk_ways (s c : Int) : lk waysL (s, c) = (toI s c).map (.int .u8) := by
  have e : ∀ (a b : Int), decide (((a, b) : Int × Int) = (s, c)) = decide (s = a ∧ c = b) := by
    intro a b; rw [decide_eq_decide]; simp only [Prod.mk.injEq]; omega
  unfold lk waysL toI
  simp only [List.find?_cons, e, List.find?_nil]
  repeat (split <;> simp_all)

def nextI (s c : Int) : Int × Int :=
  if isB s && cmdB c then (match toI s c with | some v => (v, 0) | none => (0, 6)) else (0, 1)

theorem zero22 (w : World) : (zeroValue 22).run Try.prog w = .ok (.int .u8 0) w := by kernel_rfl

theorem ret_ui2 {a b c d : Int} (h : (a, b) = (c, d)) : Ending.returned (.tuple #[.int .u8 a, .int .i64 b]) = .returned (.tuple #[.int .u8 c, .int .i64 d]) := ret_i2 h

set_option maxHeartbeats 1000000 in
theorem next_any (s c : Int) (w : World) (hs : (Lit.int .u8 s).wf = true) (hc : (Lit.int .u8 c).wf = true) :
    Calls Try.prog 14 #[.int .u8 s, .int .u8 c] w fun e w' => e = .returned (.tuple #[.int .u8 (nextI s c).1, .int .i64 (nextI s c).2]) ∧ Below w.heap.size w w' := by
  have Hs := hid hs
  have Hc := hid hc
  clear hs hc
  have hz := zero22
  have Hz := hid hz
  clear hz
  cases hi : isB s
  · have F := hid (show nextI s c = (0, 1) by simp [nextI, hi])
    go_enter Try.func14, Try.ntmps14
    go_wp2_with fail
    refine (ways_any _).mono ?_
    rintro e w1 ⟨b, rfl, hm, hb, -⟩
    go_wp2_with (at_lookup; refine wpList_lookup_map (K := stepK) rfl _ _ 47 true rfl Try.underlying47 Hz.out rfl hm (s, c) ⟨Hs.out, Hc.out⟩ rfl ?_)
    refine (is_any _ _).mono ?_
    rintro e w' ⟨rfl, rfl⟩
    go_wp2
    go_ret2
    exact ⟨ret_ui2 (by rw [F.out]), hb⟩
  cases hk : cmdB c
  · have F := hid (show nextI s c = (0, 1) by simp [nextI, hk])
    go_enter Try.func14, Try.ntmps14
    go_wp2_with fail
    refine (ways_any _).mono ?_
    rintro e w1 ⟨b, rfl, hm, hb, -⟩
    go_wp2_with (at_lookup; refine wpList_lookup_map (K := stepK) rfl _ _ 47 true rfl Try.underlying47 Hz.out rfl hm (s, c) ⟨Hs.out, Hc.out⟩ rfl ?_)
    refine (is_any _ _).mono ?_
    rintro e w' ⟨rfl, rfl⟩
    go_wp2_with fail
    refine (known_any _ _ _ _ (hm.kept (Below.refl _ _))).mono ?_
    rintro e w2 ⟨rfl, hb2⟩
    rw [hasCmd_ways]
    go_wp2
    go_ret2
    exact ⟨ret_ui2 (by rw [F.out]), bt hb hb2⟩
  cases ht : toI s c with
  | none =>
    have F := hid (show nextI s c = (0, 6) by simp [nextI, hk, hi, ht])
    have hl : lk waysL (s, c) = none := by rw [lk_ways, ht]; rfl
    clear ht
    go_enter Try.func14, Try.ntmps14
    go_wp2_with fail
    refine (ways_any _).mono ?_
    rintro e w1 ⟨b, rfl, hm, hb, -⟩
    go_wp2_with (at_lookup; refine wpList_lookup_map (K := stepK) rfl _ _ 47 true rfl Try.underlying47 Hz.out rfl hm (s, c) ⟨Hs.out, Hc.out⟩ rfl ?_)
    refine (is_any _ _).mono ?_
    rintro e w' ⟨rfl, rfl⟩
    go_wp2_with fail
    refine (known_any _ _ _ _ (hm.kept (Below.refl _ _))).mono ?_
    rintro e w2 ⟨rfl, hb2⟩
    rw [hasCmd_ways]
    go_wp2
    go_ret2
    exact ⟨ret_ui2 (by rw [F.out]), bt hb hb2⟩
  | some v =>
    have F := hid (show nextI s c = (v, 0) by simp [nextI, hk, hi, ht])
    have hl : lk waysL (s, c) = some (.int .u8 v) := by rw [lk_ways, ht]; rfl
    clear ht
    go_enter Try.func14, Try.ntmps14
    go_wp2_with fail
    refine (ways_any _).mono ?_
    rintro e w1 ⟨b, rfl, hm, hb, -⟩
    go_wp2_with (at_lookup; refine wpList_lookup_map (K := stepK) rfl _ _ 47 true rfl Try.underlying47 Hz.out rfl hm (s, c) ⟨Hs.out, Hc.out⟩ rfl ?_)
    refine (is_any _ _).mono ?_
    rintro e w' ⟨rfl, rfl⟩
    go_wp2_with fail
    refine (known_any _ _ _ _ (hm.kept (Below.refl _ _))).mono ?_
    rintro e w2 ⟨rfl, hb2⟩
    rw [hasCmd_ways]
    go_wp2
    go_ret2
    exact ⟨ret_ui2 (by rw [F.out]), bt hb hb2⟩
end Go.Proofs.Ytgikoobngohdnaa
