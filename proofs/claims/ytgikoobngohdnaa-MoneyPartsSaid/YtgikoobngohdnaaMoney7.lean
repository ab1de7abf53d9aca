/- MONEY 7: every input; the known amounts; MoneyTells. -/
import Derived.Test.YtgikoobngohdnaaRows
import Derived.Test.YtgikoobngohdnaaMoney6
namespace Go.Proofs.Ytgikoobngohdnaa
open Go.RowKit Go.Lib Go.Tk
theorem part_any (a n f : Int) (w : World) :
    Calls Try.prog 23 #[.int .i64 a, .int .i64 n, .int .i64 f] w fun e w' => e = .returned (.tuple #[.int .i64 (partW a n f), .int .i64 (partR a n f), .int .i64 (partE a n f)]) ∧ Below w.heap.size w w' := by
  by_cases h : PartOk a n f
  · exact part_good a n f w h
  · exact part_bad a n f w h
theorem rpart_any (a n f : Int) (w : World) :
    Calls Try.prog 33 #[.int .i64 a, .int .i64 n, .int .i64 f] w fun e w' => e = .returned (.tuple #[.int .i64 (partW a n f), .int .i64 (partR a n f), .int .i64 (partE a n f)]) ∧ w = w' := by
  by_cases h : PartOk a n f
  · exact rpart_good a n f w h
  · exact rpart_bad a n f w h

set_option maxHeartbeats 400000 in
theorem wakes5 (w : World) : Calls Try.prog 21 #[] w fun e w' => e = .returned (.bool true) ∧ Below w.heap.size w w' := by
  have c1 : addI 2 3 = (5, 0) := by decide
  have c2 : addI 1125899906842624 1 = (0, 7) := by decide
  have c3 : partW 10 1 3 = 3 := by decide
  have c4 : partR 10 1 3 = 1 := by decide
  have c5 : partE 10 1 3 = 0 := by decide
  go_enter Try.func21, Try.ntmps21
  go_wp2_with fail
  refine (add_any _ _ _).mono ?_
  rintro e w1 ⟨rfl, hb1⟩
  go_wp2_with fail
  refine (add_any _ _ _).mono ?_
  rintro e w2 ⟨rfl, hb2⟩
  go_wp2_with fail
  refine (part_any _ _ _ _).mono ?_
  rintro e w3 ⟨rfl, hb3⟩
  go_wp2
  go_ret
  exact ⟨rfl, bt (bt hb1 hb2) hb3⟩

set_option maxHeartbeats 1000000 in
theorem tells_any (a b c : Int) (w : World) (ha1 : -9223372036854775808 ≤ a) (ha2 : a ≤ 9223372036854775807) (hb1 : -9223372036854775808 ≤ b) (hb2 : b ≤ 9223372036854775807) :
    Calls Try.prog 9 #[.int .i64 a, .int .i64 b, .int .i64 c] w fun e w' => e = .returned (.bool true) ∧ Below w.heap.size w w' := by
  go_enter Try.func9, Try.ntmps9
  go_wp2_with fail
  refine (add_any _ _ _).mono ?_
  rintro e w1 ⟨rfl, k1⟩
  go_wp2_with fail
  refine (radd_any _ _ _).mono ?_
  rintro e w' ⟨rfl, rfl⟩
  go_wp2_with fail
  refine (sub_any _ _ _).mono ?_
  rintro e w2 ⟨rfl, k2⟩
  go_wp2_with fail
  refine (rsub_any _ _ _).mono ?_
  rintro e w' ⟨rfl, rfl⟩
  go_wp2_with fail
  refine (check_any _ _).mono ?_
  rintro e w3 ⟨rfl, k3⟩
  go_wp2_with fail
  refine (rcheck_any _ _).mono ?_
  rintro e w' ⟨rfl, rfl⟩
  go_wp2_with fail
  refine (mul_any _ _ _ ha1 ha2 hb1 hb2).mono ?_
  rintro e w4 ⟨rfl, k4⟩
  go_wp2_with fail
  refine (rmul_any _ _ _ ha1 ha2 hb1 hb2).mono ?_
  rintro e w' ⟨rfl, rfl⟩
  go_wp2_with fail
  refine (part_any _ _ _ _).mono ?_
  rintro e w5 ⟨rfl, k5⟩
  go_wp2_with fail
  refine (rpart_any _ _ _ _).mono ?_
  rintro e w' ⟨rfl, rfl⟩
  go_wp2_with fail
  refine (wakes5 _).mono ?_
  rintro e w6 ⟨rfl, k6⟩
  go_wp2
  go_ret
  exact ⟨rfl, bt (bt (bt (bt (bt k1 k2) k3) k4) k5) k6⟩

theorem wf64 {a : Int} (h : (Lit.int .i64 a).wf = true) : -9223372036854775808 ≤ a ∧ a ≤ 9223372036854775807 := by
  simpa [Lit.wf, IntKind.min, IntKind.max, IntKind.signed, IntKind.bits] using h

theorem tells_walk (a b c : Int) (w : World) (wa : (Lit.int .i64 a).wf = true) (wb : (Lit.int .i64 b).wf = true) (_wc : (Lit.int .i64 c).wf = true) :
    Calls Try.prog 9 #[.int .i64 a, .int .i64 b, .int .i64 c] w fun e w' => e = .returned (.bool true) ∧ Below w.heap.size w w' :=
  tells_any a b c w (wf64 wa).1 (wf64 wa).2 (wf64 wb).1 (wf64 wb).2
end Go.Proofs.Ytgikoobngohdnaa
