/- Money5, Money6, Money7, Tick1. -/
import Derived.Test.YtmhbpifhpolghaaGreatRows
import Derived.Test.YtmhbpifhpolghaaGreatM61f779a
import Derived.BigRegion
import Derived.Lib.Bytealg
import Derived.Deep.LoopGhost
set_option maxRecDepth 100000
set_option linter.unusedVariables false
set_option linter.unusedSimpArgs false
set_option linter.unusedSectionVars false
section
namespace Go.Proofs.YtmhbpifhpolghaaGreat
open Go.RowKit Go.Lib Go.Tk
def PartOk (a n f : Int) : Prop := 0 ≤ a ∧ a ≤ 1125899906842624 ∧ 0 ≤ n ∧ 1 ≤ f ∧ n ≤ f ∧ f ≤ 1099511627776
instance (a n f : Int) : Decidable (PartOk a n f) := by unfold PartOk; exact inferInstance
def partW (a n f : Int) : Int := if PartOk a n f then a * n / f else 0
def partR (a n f : Int) : Int := if PartOk a n f then a * n % f else 0
def partE (a n f : Int) : Int := if PartOk a n f then 0 else 7
theorem part_no {a n f : Int} (h : ¬ PartOk a n f) : Ending.returned (.tuple #[.int .i64 0, .int .i64 0, .int .i64 7]) = .returned (.tuple #[.int .i64 (partW a n f), .int .i64 (partR a n f), .int .i64 (partE a n f)]) :=
  ret_i3 (by simp [partW, h]) (by simp [partR, h]) (by simp [partE, h])
theorem part_step {V W R b f : Int} (hf : 0 < f) (hW : W = V / f) (hR : R = V % f) : W * 8192 + (R * 8192 + b) / f = (V * 8192 + b) / f ∧ (R * 8192 + b) % f = (V * 8192 + b) % f := by
  have e : V * 8192 + b = (R * 8192 + b) + f * (W * 8192) := by
    have := Int.mul_ediv_add_emod V f
    rw [hW, hR]
    have e2 : f * (V / f * 8192) = f * (V / f) * 8192 := by rw [Int.mul_assoc]
    rw [e2]; omega
  rw [e, Int.add_mul_ediv_left _ _ (by omega), Int.add_mul_emod_self_left]
  omega
theorem part_le {V T a n f : Int} (hV : V ≤ T) (hT : T = a * n) (hf : 0 < f) (hn : n ≤ f) (ha : 0 ≤ a) : V / f ≤ a := by
  have h1 : a * n ≤ a * f := Int.mul_le_mul_of_nonneg_left hn ha
  have h2 : V / f ≤ (a * f) / f := Int.ediv_le_ediv hf (by omega)
  rw [Int.mul_ediv_cancel _ (by omega)] at h2
  exact h2
theorem part_rest {V f : Int} (hf : 0 < f) : 0 ≤ V % f ∧ V % f < f := ⟨Int.emod_nonneg _ (by omega), Int.emod_lt_of_pos _ hf⟩
set_option maxHeartbeats 400000 in
theorem part_bad (a n f : Int) (w : World) (h : ¬ PartOk a n f) :
    Calls Tryz.prog 133 #[.int .i64 a, .int .i64 n, .int .i64 f] w fun e w' => e = .returned (.tuple #[.int .i64 (partW a n f), .int .i64 (partR a n f), .int .i64 (partE a n f)]) ∧ Below w.heap.size w w' := by
  have hb : Below w.heap.size w (w.alloc (.cells #[.int .i64 a] 2)) := (Below.refl _ _).alloc (Nat.le_refl _) _
  have F := hid (part_no h)
  by_cases h1 : a < 0
  · go_enter Tryz.func133, Tryz.ntmps133
    go_wp2
    go_ret3
    exact ⟨F.out, Below.refl _ _⟩
  cases h2 : mayI a
  · go_enter Tryz.func133, Tryz.ntmps133
    go_wp2_with (go_at_call 178; refine (may_any _ _ [a] _ row_lit (by simp)).mono ?_; rintro e w' ⟨rfl, rfl⟩)
    go_ret3
    exact ⟨F.out, hb⟩
  obtain ⟨_, h2'⟩ := mayI_of h2
  have h3 : n < 0 ∨ (0 ≤ n ∧ f < 1) ∨ (0 ≤ n ∧ 1 ≤ f ∧ f < n) ∨ (0 ≤ n ∧ 1 ≤ f ∧ n ≤ f ∧ 1099511627776 < f) := by unfold PartOk at h; omega
  clear h
  rcases h3 with h3 | ⟨h3, h4⟩ | ⟨h3, h4, h5⟩ | ⟨h3, h4, h5, h6⟩
  all_goals
    go_enter Tryz.func133, Tryz.ntmps133
    go_wp2_with (go_at_call 178; refine (may_any _ _ [a] _ row_lit (by simp)).mono ?_; rintro e w' ⟨rfl, rfl⟩)
    go_ret3
    exact ⟨F.out, hb⟩
set_option maxHeartbeats 4000000 in
theorem part_good (a n f : Int) (w : World) (h : PartOk a n f) :
    Calls Tryz.prog 133 #[.int .i64 a, .int .i64 n, .int .i64 f] w fun e w' => e = .returned (.tuple #[.int .i64 (partW a n f), .int .i64 (partR a n f), .int .i64 (partE a n f)]) ∧ Below w.heap.size w w' := by
  have hb : Below w.heap.size w (w.alloc (.cells #[.int .i64 a] 2)) := (Below.refl _ _).alloc (Nat.le_refl _) _
  have H := hid h
  obtain ⟨h1, h2, h3, h4, h5, h6⟩ := h
  have hm : mayI a = true := by simp [mayI]; omega
  have i0 := idx2_0
  have i1 := idx2_1
  go_enter Tryz.func133, Tryz.ntmps133
  go_wp2_with fail
  refine (may_any _ _ [a] _ row_lit (by simp)).mono ?_
  rintro e w' ⟨rfl, rfl⟩
  go_wp2_with fail
  refine (halves_any a n _ h1 h2 h3 (by omega)).mono ?_
  rintro e w1 ⟨p0, p1, p2, p3, rfl, hw, hb1⟩
  obtain ⟨T, hT⟩ : ∃ T, T = a * n := ⟨_, rfl⟩
  obtain ⟨q0, q1, q2, q3, hsum⟩ := hw
  rw [← hT] at hsum
  have HT := hid hT
  have HS := hid hsum
  clear hsum hT
  have hb2 := hb.trans (hb1.mono (by simp))
  obtain ⟨b1, hb1⟩ : ∃ x, x = p3 / 8192 := ⟨_, rfl⟩
  obtain ⟨b2, hb2⟩ : ∃ x, x = p3 % 8192 := ⟨_, rfl⟩
  have eb1 := hb1.symm
  have eb2 := and13 p3 (by omega) (by omega)
  rw [← hb2] at eb2
  have rb1 : 0 ≤ b1 ∧ b1 < 8192 := by omega
  have rb2 : 0 ≤ b2 ∧ b2 < 8192 := by omega
  have hp0 : p3 = b1 * 8192 + b2 := by omega
  have Hp0 := hid hp0
  clear hb1 hb2 hp0
  obtain ⟨b3, hb3⟩ : ∃ x, x = p2 / 8192 := ⟨_, rfl⟩
  obtain ⟨b4, hb4⟩ : ∃ x, x = p2 % 8192 := ⟨_, rfl⟩
  have eb3 := hb3.symm
  have eb4 := and13 p2 (by omega) (by omega)
  rw [← hb4] at eb4
  have rb3 : 0 ≤ b3 ∧ b3 < 8192 := by omega
  have rb4 : 0 ≤ b4 ∧ b4 < 8192 := by omega
  have hp1 : p2 = b3 * 8192 + b4 := by omega
  have Hp1 := hid hp1
  clear hb3 hb4 hp1
  obtain ⟨b5, hb5⟩ : ∃ x, x = p1 / 8192 := ⟨_, rfl⟩
  obtain ⟨b6, hb6⟩ : ∃ x, x = p1 % 8192 := ⟨_, rfl⟩
  have eb5 := hb5.symm
  have eb6 := and13 p1 (by omega) (by omega)
  rw [← hb6] at eb6
  have rb5 : 0 ≤ b5 ∧ b5 < 8192 := by omega
  have rb6 : 0 ≤ b6 ∧ b6 < 8192 := by omega
  have hp2 : p1 = b5 * 8192 + b6 := by omega
  have Hp2 := hid hp2
  clear hb5 hb6 hp2
  obtain ⟨b7, hb7⟩ : ∃ x, x = p0 / 8192 := ⟨_, rfl⟩
  obtain ⟨b8, hb8⟩ : ∃ x, x = p0 % 8192 := ⟨_, rfl⟩
  have eb7 := hb7.symm
  have eb8 := and13 p0 (by omega) (by omega)
  rw [← hb8] at eb8
  have rb7 : 0 ≤ b7 ∧ b7 < 8192 := by omega
  have rb8 : 0 ≤ b8 ∧ b8 < 8192 := by omega
  have hp3 : p0 = b7 * 8192 + b8 := by omega
  have Hp3 := hid hp3
  clear hb7 hb8 hp3
  obtain ⟨V1, hV1⟩ : ∃ x, x = b1 := ⟨_, rfl⟩
  obtain ⟨V2, hV2⟩ : ∃ x, x = V1 * 8192 + b2 := ⟨_, rfl⟩
  obtain ⟨V3, hV3⟩ : ∃ x, x = V2 * 8192 + b3 := ⟨_, rfl⟩
  obtain ⟨V4, hV4⟩ : ∃ x, x = V3 * 8192 + b4 := ⟨_, rfl⟩
  obtain ⟨V5, hV5⟩ : ∃ x, x = V4 * 8192 + b5 := ⟨_, rfl⟩
  obtain ⟨V6, hV6⟩ : ∃ x, x = V5 * 8192 + b6 := ⟨_, rfl⟩
  obtain ⟨V7, hV7⟩ : ∃ x, x = V6 * 8192 + b7 := ⟨_, rfl⟩
  obtain ⟨V8, hV8⟩ : ∃ x, x = V7 * 8192 + b8 := ⟨_, rfl⟩
  have hVT : V8 = T := by
    have a0 := Hp0.out; have a1 := Hp1.out; have a2 := Hp2.out; have a3 := Hp3.out; have a4 := HS.out
    omega
  have l1 : 0 ≤ V1 ∧ V1 ≤ T := by omega
  have l2 : 0 ≤ V2 ∧ V2 ≤ T := by omega
  have l3 : 0 ≤ V3 ∧ V3 ≤ T := by omega
  have l4 : 0 ≤ V4 ∧ V4 ≤ T := by omega
  have l5 : 0 ≤ V5 ∧ V5 ≤ T := by omega
  have l6 : 0 ≤ V6 ∧ V6 ≤ T := by omega
  have l7 : 0 ≤ V7 ∧ V7 ≤ T := by omega
  have l8 : 0 ≤ V8 ∧ V8 ≤ T := by omega
  have HV1 := hid hV1
  have HV2 := hid hV2
  have HV3 := hid hV3
  have HV4 := hid hV4
  have HV5 := hid hV5
  have HV6 := hid hV6
  have HV7 := hid hV7
  have HV8 := hid hV8
  have HVT := hid hVT
  clear hVT hV1 hV2 hV3 hV4 hV5 hV6 hV7 hV8
  obtain ⟨W1, hW1⟩ : ∃ x, x = V1 / f := ⟨_, rfl⟩
  obtain ⟨R1, hR1⟩ : ∃ x, x = V1 % f := ⟨_, rfl⟩
  have w1 : 0 ≤ W1 ∧ W1 ≤ 1125899906842624 := by
    rw [hW1]; exact ⟨Int.ediv_nonneg l1.1 (by omega), Int.le_trans (part_le l1.2 HT.out (by omega) h5 h1) h2⟩
  have r1 : 0 ≤ R1 ∧ R1 < 1099511627776 := by
    rw [hR1]; have := part_rest (V := V1) (f := f) (by omega); omega
  have HW1 := hid hW1
  have HR1 := hid hR1
  clear hW1 hR1
  obtain ⟨W2, hW2⟩ : ∃ x, x = V2 / f := ⟨_, rfl⟩
  obtain ⟨R2, hR2⟩ : ∃ x, x = V2 % f := ⟨_, rfl⟩
  have w2 : 0 ≤ W2 ∧ W2 ≤ 1125899906842624 := by
    rw [hW2]; exact ⟨Int.ediv_nonneg l2.1 (by omega), Int.le_trans (part_le l2.2 HT.out (by omega) h5 h1) h2⟩
  have r2 : 0 ≤ R2 ∧ R2 < 1099511627776 := by
    rw [hR2]; have := part_rest (V := V2) (f := f) (by omega); omega
  have HW2 := hid hW2
  have HR2 := hid hR2
  clear hW2 hR2
  obtain ⟨W3, hW3⟩ : ∃ x, x = V3 / f := ⟨_, rfl⟩
  obtain ⟨R3, hR3⟩ : ∃ x, x = V3 % f := ⟨_, rfl⟩
  have w3 : 0 ≤ W3 ∧ W3 ≤ 1125899906842624 := by
    rw [hW3]; exact ⟨Int.ediv_nonneg l3.1 (by omega), Int.le_trans (part_le l3.2 HT.out (by omega) h5 h1) h2⟩
  have r3 : 0 ≤ R3 ∧ R3 < 1099511627776 := by
    rw [hR3]; have := part_rest (V := V3) (f := f) (by omega); omega
  have HW3 := hid hW3
  have HR3 := hid hR3
  clear hW3 hR3
  obtain ⟨W4, hW4⟩ : ∃ x, x = V4 / f := ⟨_, rfl⟩
  obtain ⟨R4, hR4⟩ : ∃ x, x = V4 % f := ⟨_, rfl⟩
  have w4 : 0 ≤ W4 ∧ W4 ≤ 1125899906842624 := by
    rw [hW4]; exact ⟨Int.ediv_nonneg l4.1 (by omega), Int.le_trans (part_le l4.2 HT.out (by omega) h5 h1) h2⟩
  have r4 : 0 ≤ R4 ∧ R4 < 1099511627776 := by
    rw [hR4]; have := part_rest (V := V4) (f := f) (by omega); omega
  have HW4 := hid hW4
  have HR4 := hid hR4
  clear hW4 hR4
  obtain ⟨W5, hW5⟩ : ∃ x, x = V5 / f := ⟨_, rfl⟩
  obtain ⟨R5, hR5⟩ : ∃ x, x = V5 % f := ⟨_, rfl⟩
  have w5 : 0 ≤ W5 ∧ W5 ≤ 1125899906842624 := by
    rw [hW5]; exact ⟨Int.ediv_nonneg l5.1 (by omega), Int.le_trans (part_le l5.2 HT.out (by omega) h5 h1) h2⟩
  have r5 : 0 ≤ R5 ∧ R5 < 1099511627776 := by
    rw [hR5]; have := part_rest (V := V5) (f := f) (by omega); omega
  have HW5 := hid hW5
  have HR5 := hid hR5
  clear hW5 hR5
  obtain ⟨W6, hW6⟩ : ∃ x, x = V6 / f := ⟨_, rfl⟩
  obtain ⟨R6, hR6⟩ : ∃ x, x = V6 % f := ⟨_, rfl⟩
  have w6 : 0 ≤ W6 ∧ W6 ≤ 1125899906842624 := by
    rw [hW6]; exact ⟨Int.ediv_nonneg l6.1 (by omega), Int.le_trans (part_le l6.2 HT.out (by omega) h5 h1) h2⟩
  have r6 : 0 ≤ R6 ∧ R6 < 1099511627776 := by
    rw [hR6]; have := part_rest (V := V6) (f := f) (by omega); omega
  have HW6 := hid hW6
  have HR6 := hid hR6
  clear hW6 hR6
  obtain ⟨W7, hW7⟩ : ∃ x, x = V7 / f := ⟨_, rfl⟩
  obtain ⟨R7, hR7⟩ : ∃ x, x = V7 % f := ⟨_, rfl⟩
  have w7 : 0 ≤ W7 ∧ W7 ≤ 1125899906842624 := by
    rw [hW7]; exact ⟨Int.ediv_nonneg l7.1 (by omega), Int.le_trans (part_le l7.2 HT.out (by omega) h5 h1) h2⟩
  have r7 : 0 ≤ R7 ∧ R7 < 1099511627776 := by
    rw [hR7]; have := part_rest (V := V7) (f := f) (by omega); omega
  have HW7 := hid hW7
  have HR7 := hid hR7
  clear hW7 hR7
  obtain ⟨W8, hW8⟩ : ∃ x, x = V8 / f := ⟨_, rfl⟩
  obtain ⟨R8, hR8⟩ : ∃ x, x = V8 % f := ⟨_, rfl⟩
  have w8 : 0 ≤ W8 ∧ W8 ≤ 1125899906842624 := by
    rw [hW8]; exact ⟨Int.ediv_nonneg l8.1 (by omega), Int.le_trans (part_le l8.2 HT.out (by omega) h5 h1) h2⟩
  have r8 : 0 ≤ R8 ∧ R8 < 1099511627776 := by
    rw [hR8]; have := part_rest (V := V8) (f := f) (by omega); omega
  have HW8 := hid hW8
  have HR8 := hid hR8
  clear hW8 hR8
  clear l1 l2 l3 l4 l5 l6 l7 l8 q0 q1 q2 q3
  go_wp2
  refine wp_loop_rounds 6 ?_
  rw [rounds_succ]
  go_wp2
  go_region
  go_wp2
  refine wp_loop_rounds 4 ?_
  have o1 : bits .or .i64 0 b1 = b1 := by
    have := or13 0 b1 (by omega) (by omega) (by omega) (by omega) (by omega)
    rw [this]; omega
  have c1 : b1 / f = W1 := by rw [HW1.out, HV1.out]
  have d1 : b1 % f = R1 := by rw [HR1.out, HV1.out]
  rw [rounds_succ]
  go_wp2
  try simp only [c1, d1]
  clear o1 c1 d1
  have o2 : bits .or .i64 (R1 * 8192) b2 = R1 * 8192 + b2 := or13 _ _ (by omega) (by omega) (by omega) (by omega) (by omega)
  have s2 := part_step (V := V1) (W := W1) (R := R1) (b := b2) (f := f) (by omega) HW1.out HR1.out
  have x2 : 0 ≤ (R1 * 8192 + b2) / f := Int.ediv_nonneg (by omega) (by omega)
  have c2 : W1 * 8192 + (R1 * 8192 + b2) / f = W2 := by rw [HW2.out, HV2.out]; exact s2.1
  have d2 : (R1 * 8192 + b2) % f = R2 := by rw [HR2.out, HV2.out]; exact s2.2
  clear s2
  rw [rounds_succ]
  go_wp2
  try simp only [d2]
  clear o2 c2 d2 x2
  rw [rounds_succ]
  go_wp2
  rw [rounds_succ]
  go_wp2
  go_region
  go_wp2
  refine wp_loop_rounds 4 ?_
  have o3 : bits .or .i64 (R2 * 8192) b3 = R2 * 8192 + b3 := or13 _ _ (by omega) (by omega) (by omega) (by omega) (by omega)
  have s3 := part_step (V := V2) (W := W2) (R := R2) (b := b3) (f := f) (by omega) HW2.out HR2.out
  have x3 : 0 ≤ (R2 * 8192 + b3) / f := Int.ediv_nonneg (by omega) (by omega)
  have c3 : W2 * 8192 + (R2 * 8192 + b3) / f = W3 := by rw [HW3.out, HV3.out]; exact s3.1
  have d3 : (R2 * 8192 + b3) % f = R3 := by rw [HR3.out, HV3.out]; exact s3.2
  clear s3
  rw [rounds_succ]
  go_wp2
  try simp only [d3]
  clear o3 c3 d3 x3
  have o4 : bits .or .i64 (R3 * 8192) b4 = R3 * 8192 + b4 := or13 _ _ (by omega) (by omega) (by omega) (by omega) (by omega)
  have s4 := part_step (V := V3) (W := W3) (R := R3) (b := b4) (f := f) (by omega) HW3.out HR3.out
  have x4 : 0 ≤ (R3 * 8192 + b4) / f := Int.ediv_nonneg (by omega) (by omega)
  have c4 : W3 * 8192 + (R3 * 8192 + b4) / f = W4 := by rw [HW4.out, HV4.out]; exact s4.1
  have d4 : (R3 * 8192 + b4) % f = R4 := by rw [HR4.out, HV4.out]; exact s4.2
  clear s4
  rw [rounds_succ]
  go_wp2
  try simp only [d4]
  clear o4 c4 d4 x4
  rw [rounds_succ]
  go_wp2
  rw [rounds_succ]
  go_wp2
  go_region
  go_wp2
  refine wp_loop_rounds 4 ?_
  have o5 : bits .or .i64 (R4 * 8192) b5 = R4 * 8192 + b5 := or13 _ _ (by omega) (by omega) (by omega) (by omega) (by omega)
  have s5 := part_step (V := V4) (W := W4) (R := R4) (b := b5) (f := f) (by omega) HW4.out HR4.out
  have x5 : 0 ≤ (R4 * 8192 + b5) / f := Int.ediv_nonneg (by omega) (by omega)
  have c5 : W4 * 8192 + (R4 * 8192 + b5) / f = W5 := by rw [HW5.out, HV5.out]; exact s5.1
  have d5 : (R4 * 8192 + b5) % f = R5 := by rw [HR5.out, HV5.out]; exact s5.2
  clear s5
  rw [rounds_succ]
  go_wp2
  try simp only [d5]
  clear o5 c5 d5 x5
  have o6 : bits .or .i64 (R5 * 8192) b6 = R5 * 8192 + b6 := or13 _ _ (by omega) (by omega) (by omega) (by omega) (by omega)
  have s6 := part_step (V := V5) (W := W5) (R := R5) (b := b6) (f := f) (by omega) HW5.out HR5.out
  have x6 : 0 ≤ (R5 * 8192 + b6) / f := Int.ediv_nonneg (by omega) (by omega)
  have c6 : W5 * 8192 + (R5 * 8192 + b6) / f = W6 := by rw [HW6.out, HV6.out]; exact s6.1
  have d6 : (R5 * 8192 + b6) % f = R6 := by rw [HR6.out, HV6.out]; exact s6.2
  clear s6
  rw [rounds_succ]
  go_wp2
  try simp only [d6]
  clear o6 c6 d6 x6
  rw [rounds_succ]
  go_wp2
  rw [rounds_succ]
  go_wp2
  go_region
  go_wp2
  refine wp_loop_rounds 4 ?_
  have o7 : bits .or .i64 (R6 * 8192) b7 = R6 * 8192 + b7 := or13 _ _ (by omega) (by omega) (by omega) (by omega) (by omega)
  have s7 := part_step (V := V6) (W := W6) (R := R6) (b := b7) (f := f) (by omega) HW6.out HR6.out
  have x7 : 0 ≤ (R6 * 8192 + b7) / f := Int.ediv_nonneg (by omega) (by omega)
  have c7 : W6 * 8192 + (R6 * 8192 + b7) / f = W7 := by rw [HW7.out, HV7.out]; exact s7.1
  have d7 : (R6 * 8192 + b7) % f = R7 := by rw [HR7.out, HV7.out]; exact s7.2
  clear s7
  rw [rounds_succ]
  go_wp2
  try simp only [d7]
  clear o7 c7 d7 x7
  have o8 : bits .or .i64 (R7 * 8192) b8 = R7 * 8192 + b8 := or13 _ _ (by omega) (by omega) (by omega) (by omega) (by omega)
  have s8 := part_step (V := V7) (W := W7) (R := R7) (b := b8) (f := f) (by omega) HW7.out HR7.out
  have x8 : 0 ≤ (R7 * 8192 + b8) / f := Int.ediv_nonneg (by omega) (by omega)
  have c8 : W7 * 8192 + (R7 * 8192 + b8) / f = W8 := by rw [HW8.out, HV8.out]; exact s8.1
  have d8 : (R7 * 8192 + b8) % f = R8 := by rw [HR8.out, HV8.out]; exact s8.2
  clear s8
  rw [rounds_succ]
  go_wp2
  try simp only [d8]
  clear o8 c8 d8 x8
  rw [rounds_succ]
  go_wp2
  rw [rounds_succ]
  go_wp2
  go_ret3
  have hg : a * n = V8 := by rw [HVT.out, HT.out]
  refine ⟨ret_i3 ?_ ?_ ?_, by repeat (first | exact hb2 | exact hb2.size | refine Below.drew ?_ | refine Below.setCell ?_ ?_ _ | refine Below.alloc ?_ ?_ _)⟩
  · rw [partW, if_pos H.out, hg, HW8.out]
  · rw [partR, if_pos H.out, hg, HR8.out]
  · rw [partE, if_pos H.out]
set_option maxHeartbeats 400000 in
theorem rpart_bad (a n f : Int) (w : World) (h : ¬ PartOk a n f) :
    Calls Tryz.prog 140 #[.int .i64 a, .int .i64 n, .int .i64 f] w fun e w' => e = .returned (.tuple #[.int .i64 (partW a n f), .int .i64 (partR a n f), .int .i64 (partE a n f)]) ∧ w = w' := by
  have F := hid (part_no h)
  by_cases h1 : a < 0
  · go_enter Tryz.func140, Tryz.ntmps140
    go_wp2
    go_ret3
    exact ⟨F.out, rfl⟩
  cases h2 : mayI a
  · go_enter Tryz.func140, Tryz.ntmps140
    go_wp2_with (go_at_call 139; refine (rmay_any _ _).mono ?_; rintro e w' ⟨rfl, rfl⟩)
    go_ret3
    exact ⟨F.out, rfl⟩
  obtain ⟨_, h2'⟩ := mayI_of h2
  have h3 : n < 0 ∨ (0 ≤ n ∧ f < 1) ∨ (0 ≤ n ∧ 1 ≤ f ∧ f < n) ∨ (0 ≤ n ∧ 1 ≤ f ∧ n ≤ f ∧ 1099511627776 < f) := by unfold PartOk at h; omega
  clear h
  rcases h3 with h3 | ⟨h3, h4⟩ | ⟨h3, h4, h5⟩ | ⟨h3, h4, h5, h6⟩
  all_goals
    go_enter Tryz.func140, Tryz.ntmps140
    go_wp2_with (go_at_call 139; refine (rmay_any _ _).mono ?_; rintro e w' ⟨rfl, rfl⟩)
    go_ret3
    exact ⟨F.out, rfl⟩
def LongAt (a n f : Int) (j : Nat) (W R : Int) : Prop := W * f + R = a / 2 ^ j * n ∧ 0 ≤ R ∧ R < f
theorem long_le {a n f : Int} {j : Nat} {W R : Int} (h : W * f + R = a / 2 ^ j * n) (hR : 0 ≤ R) (hok : PartOk a n f) : W ≤ a := by
  obtain ⟨h1, h2, h3, h4, h5, h6⟩ := hok
  have hp : (0 : Int) < 2 ^ j := Int.pow_pos (by decide)
  have k1 : a / 2 ^ j ≤ a := Int.ediv_le_self _ h1
  have k2 : a / 2 ^ j * n ≤ a * f := Int.le_trans (Int.mul_le_mul_of_nonneg_right k1 h3) (Int.mul_le_mul_of_nonneg_left h5 h1)
  have k3 : W * f ≤ a * f := by omega
  exact Int.le_of_mul_le_mul_right k3 (by omega)
theorem and1 (x : Int) (h0 : 0 ≤ x) (h1 : x < 4611686018427387904) : bits .and .i64 x 1 = x % 2 :=
  bits_mask .i64 62 (by decide) wraps_i64 1 (by decide) x h0 h1
theorem long_bit {a : Int} {i : Nat} : a / 2 ^ i = a / 2 ^ (i + 1) * 2 + a / 2 ^ i % 2 := by
  have : a / 2 ^ (i + 1) = a / 2 ^ i / 2 := by rw [Int.pow_succ, Int.ediv_ediv_of_nonneg (Int.le_of_lt (Int.pow_pos (by decide)))]
  omega
set_option maxHeartbeats 1000000 in
theorem rpart_good (a n f : Int) (w : World) (h : PartOk a n f) :
    Calls Tryz.prog 140 #[.int .i64 a, .int .i64 n, .int .i64 f] w fun e w' => e = .returned (.tuple #[.int .i64 (partW a n f), .int .i64 (partR a n f), .int .i64 (partE a n f)]) ∧ w = w' := by
  have H := hid h
  obtain ⟨h1, h2, h3, h4, h5, h6⟩ := h
  have hm : mayI a = true := by simp [mayI]; omega
  go_enter Tryz.func140, Tryz.ntmps140
  go_wp2_with (go_at_call 139; refine (rmay_any _ _).mono ?_; rintro e w' ⟨rfl, rfl⟩)
  go_loop [9, 10, 11] (fun x y z => ∃ (j : Nat) (W R : Int), j ≤ 51 ∧ z = .int .i64 ((j : Int) - 1) ∧ x = .int .i64 W ∧ y = .int .i64 R ∧ 0 ≤ W ∧ Hid (LongAt a n f j W R)) (fun _ _ z => (RowKit.intOf z + 1).toNat)
  case atStart => exact ⟨51, 0, 0, by omega, rfl, rfl, rfl, by omega, hid ⟨by rw [show a / 2 ^ 51 = 0 by omega]; omega, by omega, by omega⟩⟩
  case round =>
    obtain ⟨j, W, R, hj, rfl, rfl, rfl, hW, hL⟩ := hrel
    obtain ⟨-, hR0, hR1⟩ := hL.out
    have hWa := long_le hL.out.1 hR0 H.out
    cases j with
    | zero =>
      have L := hL.out
      clear hL
      have e1 : W = a * n / f := by
        have h := L.1
        rw [Int.pow_zero, Int.ediv_one] at h
        rw [← h, Int.add_comm, Int.add_mul_ediv_right _ _ (by omega), Int.ediv_eq_zero_of_lt hR0 hR1]; omega
      have e2 : R = a * n % f := by
        have h := L.1
        rw [Int.pow_zero, Int.ediv_one] at h
        rw [← h, Int.add_comm, Int.add_mul_emod_self_right, Int.emod_eq_of_lt hR0 hR1]
      have E1 := hid e1
      have E2 := hid e2
      clear e1 e2 L
      go_wp2
      go_ret3
      exact ⟨ret_i3 (by rw [partW, if_pos H.out, E1.out]) (by rw [partR, if_pos H.out, E2.out]) (by rw [partE, if_pos H.out]), rfl⟩
    | succ i =>
      simp only [Int.natCast_add, Int.cast_ofNat_Int, Int.add_sub_cancel]
      have hp : (0 : Int) < 2 ^ i := Int.pow_pos (by decide)
      have ha0 : 0 ≤ a / 2 ^ i := Int.ediv_nonneg h1 (by omega)
      have ha1 : a / 2 ^ i ≤ a := Int.ediv_le_self _ h1
      have hb := long_bit (a := a) (i := i)
      have he := and1 (a / 2 ^ i) ha0 (by omega)
      have L1 := hL.out.1
      have hb2 : a / 2 ^ i % 2 = 1 ∨ a / 2 ^ i % 2 = 0 := by omega
      have hj' : i ≤ 50 := by omega
      rcases hb2 with hb2 | hb2
      · have hc : (bits BinOp.and IntKind.i64 (a / 2 ^ i) 1 == 1) = true := by rw [he, hb2]; rfl
        have hE : Hid (W * 2 * f + (R * 2 + n) = a / 2 ^ i * n) := by
          unfold Hid
          rw [hb, hb2, Int.add_mul, Int.one_mul, Int.mul_right_comm, Int.mul_right_comm _ 2 n, ← L1]; omega
        clear hb he hb2 hL L1
        go_wp2
        go_loop [9, 10] (fun x y => ∃ (U T : Int), x = .int .i64 U ∧ y = .int .i64 T ∧ 0 ≤ U ∧ 0 ≤ T ∧ T ≤ 3298534883328 ∧ Hid (U * f + T = a / 2 ^ i * n)) (fun _ y => (RowKit.intOf y).toNat)
        case atStart => exact ⟨_, _, rfl, rfl, by omega, by omega, by omega, hE⟩
        case round =>
          obtain ⟨U, T, rfl, rfl, hU, hT0, hT1, hUT⟩ := hrel
          have hUa := long_le hUT.out hT0 H.out
          by_cases hTf : f ≤ T
          · go_wp2
            go_round
            case rel => exact ⟨_, _, rfl, rfl, by omega, by omega, by omega, hid (by rw [Int.add_mul, Int.one_mul, ← hUT.out]; omega)⟩
            case measure => simp [RowKit.intOf]; omega
          · have hL' : Hid (LongAt a n f i U T) := ⟨hUT.out, hT0, by omega⟩
            go_wp2
            go_round
            case rel => exact ⟨i, _, _, by omega, rfl, rfl, rfl, hU, hL'⟩
            case measure => simp [RowKit.intOf]
      · have hc : (bits BinOp.and IntKind.i64 (a / 2 ^ i) 1 == 1) = false := by rw [he, hb2]; rfl
        have hE : Hid (W * 2 * f + R * 2 = a / 2 ^ i * n) := by
          unfold Hid
          rw [hb, hb2, Int.add_zero, Int.mul_right_comm, Int.mul_right_comm _ 2 n, ← L1]; omega
        clear hb he hb2 hL L1
        go_wp2
        go_loop [9, 10] (fun x y => ∃ (U T : Int), x = .int .i64 U ∧ y = .int .i64 T ∧ 0 ≤ U ∧ 0 ≤ T ∧ T ≤ 3298534883328 ∧ Hid (U * f + T = a / 2 ^ i * n)) (fun _ y => (RowKit.intOf y).toNat)
        case atStart => exact ⟨_, _, rfl, rfl, by omega, by omega, by omega, hE⟩
        case round =>
          obtain ⟨U, T, rfl, rfl, hU, hT0, hT1, hUT⟩ := hrel
          have hUa := long_le hUT.out hT0 H.out
          by_cases hTf : f ≤ T
          · go_wp2
            go_round
            case rel => exact ⟨_, _, rfl, rfl, by omega, by omega, by omega, hid (by rw [Int.add_mul, Int.one_mul, ← hUT.out]; omega)⟩
            case measure => simp [RowKit.intOf]; omega
          · have hL' : Hid (LongAt a n f i U T) := ⟨hUT.out, hT0, by omega⟩
            go_wp2
            go_round
            case rel => exact ⟨i, _, _, by omega, rfl, rfl, rfl, hU, hL'⟩
            case measure => simp [RowKit.intOf]
theorem part_any (a n f : Int) (w : World) :
    Calls Tryz.prog 133 #[.int .i64 a, .int .i64 n, .int .i64 f] w fun e w' => e = .returned (.tuple #[.int .i64 (partW a n f), .int .i64 (partR a n f), .int .i64 (partE a n f)]) ∧ Below w.heap.size w w' := by
  by_cases h : PartOk a n f
  · exact part_good a n f w h
  · exact part_bad a n f w h
theorem rpart_any (a n f : Int) (w : World) :
    Calls Tryz.prog 140 #[.int .i64 a, .int .i64 n, .int .i64 f] w fun e w' => e = .returned (.tuple #[.int .i64 (partW a n f), .int .i64 (partR a n f), .int .i64 (partE a n f)]) ∧ w = w' := by
  by_cases h : PartOk a n f
  · exact rpart_good a n f w h
  · exact rpart_bad a n f w h
theorem indexByte_ge : ∀ (l : List UInt8) (c : UInt8), -1 ≤ Lib.indexByte l c
  | [], _ => by simp [Lib.indexByte]
  | b :: l, c => by
    have := indexByte_ge l c
    unfold Lib.indexByte
    split
    · omega
    · split <;> omega
theorem indexByte_neg : ∀ (l : List UInt8) (c : UInt8), decide (Lib.indexByte l c < 0) = !l.contains c
  | [], c => by simp [Lib.indexByte]
  | b :: l, c => by
    have h1 := indexByte_neg l c
    have h2 := indexByte_ge l c
    unfold Lib.indexByte
    by_cases hb : b = c
    · subst hb; simp
    · have hb' : (b == c) = false := by simpa using hb
      rw [hb', if_neg (by decide)]
      have hc : (b :: l).contains c = l.contains c := by
        rw [List.contains_cons]
        have : (c == b) = false := by simpa using Ne.symm hb
        rw [this, Bool.false_or]
      rw [hc, ← h1]
      split
      · rename_i h; have h : Lib.indexByte l c = -1 := by simpa using h
        simp [h]
      · rename_i h; have h : Lib.indexByte l c ≠ -1 := by simpa using h
        rw [decide_eq_decide]; omega
set_option maxHeartbeats 400000 in
theorem idxSL_any (s : ByteArray) (c : Int) (w : World) : Calls Tryz.prog 211 #[.string s, .int .u8 c] w fun e w' => e = .returned (.int .i64 (Lib.indexByte s.data.toList c.toNat.toUInt8)) ∧ w = w' := by
  go_enter Tryz.func211, Tryz.ntmps211
  go_wp2
  rw [run_callFunc_extern Tryz.func238 (by kernel_rfl) (by kernel_rfl) (by kernel_rfl) (e := Extern.BytealgIndexByte.indexByte) (by kernel_rfl), Lib.run_indexByteString]
  simp only [Result.andThen]
  rw [Oper.upon_value]
  go_wp2
  go_ret
  exact ⟨rfl, rfl⟩
set_option maxHeartbeats 400000 in
theorem idxB_any (s : ByteArray) (c : Int) (x : UInt8) (hx : c.toNat.toUInt8 = x) (w : World) : Calls Tryz.prog 173 #[.string s, .int .u8 c] w fun e w' => e = .returned (.int .i64 (Lib.indexByte s.data.toList x)) ∧ w = w' := by
  have HX := hid hx
  clear hx
  go_enter Tryz.func173, Tryz.ntmps173
  go_wp2_with fail
  refine (idxSL_any s c w).mono ?_
  rintro e w' ⟨rfl, rfl⟩
  rw [HX.out]
  go_wp2
  go_ret
  exact ⟨rfl, rfl⟩
def upB (c : UInt8) : Bool := decide (65 ≤ (c.toNat : Int)) && decide ((c.toNat : Int) ≤ 90)
def letB (also : List UInt8) (c : UInt8) : Bool := upB c || also.contains c
def lettersB (also l : List UInt8) : Bool := l.all (letB also)
theorem all_snoc (p : UInt8 → Bool) (s : ByteArray) (k : Nat) (h : k < s.size) : (s.data.toList.take (k + 1)).all p = ((s.data.toList.take k).all p && p s[k]) := by
  have h' : k < s.data.toList.length := by simpa using h
  rw [List.take_succ_eq_append_getElem h', List.all_append]
  simp; rfl
theorem all_false (p : UInt8 → Bool) (s : ByteArray) (k : Nat) (h : k < s.size) (hp : p s[k] = false) : s.data.toList.all p = false := by
  have h' : k < s.data.toList.length := by simpa using h
  cases hc : s.data.toList.all p with
  | false => rfl
  | true =>
    have := List.all_eq_true.1 hc s.data.toList[k] (List.getElem_mem h')
    rw [show s.data.toList[k] = s[k] from rfl, hp] at this; cases this
set_option maxHeartbeats 2000000 in
theorem letters_any (s also : ByteArray) (w : World) (hs : s.size ≤ maxLen) :
    Calls Tryz.prog 121 #[.string s, .string also] w fun e w' => e = .returned (.bool (lettersB also.data.toList s.data.toList)) ∧ w = w' := by
  unfold maxLen at hs
  go_enter Tryz.func121, Tryz.ntmps121
  go_wp2
  go_loop [8] (fun i => ∃ k : Nat, k ≤ s.size ∧ i = .int .i64 k ∧ Hid ((s.data.toList.take k).all (letB also.data.toList) = true)) (fun i => s.size - (RowKit.intOf i).toNat)
  case atStart => exact ⟨0, Nat.zero_le _, rfl, rfl⟩
  case round =>
    obtain ⟨k, hk, rfl, H⟩ := hrel
    by_cases hlt : k < s.size
    · have HA := hid (all_snoc (letB also.data.toList) s k hlt)
      have HF := hid (all_false (letB also.data.toList) s k hlt)
      by_cases h1 : (65 : Int) ≤ (s[k].toNat : Int)
      · have d1 : decide ((s[k].toNat : Int) < 65) = false := decide_eq_false (by omega)
        by_cases h2 : (s[k].toNat : Int) ≤ 90
        · have d2 : decide ((s[k].toNat : Int) > 90) = false := decide_eq_false (by omega)
          have HU := hid (show letB also.data.toList s[k] = true by unfold letB upB; simp only [decide_eq_true h1, decide_eq_true h2]; rfl)
          go_wp2
          go_round
          case rel => exact ⟨k + 1, by omega, by go_num, hid (by rw [HA.out, H.out, HU.out]; rfl)⟩
          case measure => simp [RowKit.intOf]; omega
        · have d2 : decide ((s[k].toNat : Int) > 90) = true := decide_eq_true (by omega)
          have hu : upB s[k] = false := by unfold upB; rw [decide_eq_false h2, Bool.and_false]
          cases hc : also.data.toList.contains s[k] with
          | true =>
            have HU := hid (show letB also.data.toList s[k] = true by unfold letB; rw [hc, Bool.or_true])
            have d3 : decide (Lib.indexByte also.data.toList s[k] < 0) = false := by rw [indexByte_neg, hc]; rfl
            clear hc hu
            go_wp2_with fail
            refine (idxB_any also _ s[k] (by simp) _).mono ?_
            rintro e w' ⟨rfl, rfl⟩
            go_wp2
            go_round
            case rel => exact ⟨k + 1, by omega, by go_num, hid (by rw [HA.out, H.out, HU.out]; rfl)⟩
            case measure => simp [RowKit.intOf]; omega
          | false =>
            have HU := hid (HF.out (by unfold letB; rw [hc, hu]; rfl))
            have d3 : decide (Lib.indexByte also.data.toList s[k] < 0) = true := by rw [indexByte_neg, hc]; rfl
            clear hc hu
            go_wp2_with fail
            refine (idxB_any also _ s[k] (by simp) _).mono ?_
            rintro e w' ⟨rfl, rfl⟩
            go_wp2
            go_ret
            exact ⟨ret_bool (by unfold lettersB; rw [HU.out]), rfl⟩
      · have d1 : decide ((s[k].toNat : Int) < 65) = true := decide_eq_true (by omega)
        have hu : upB s[k] = false := by unfold upB; rw [decide_eq_false h1, Bool.false_and]
        cases hc : also.data.toList.contains s[k] with
        | true =>
          have HU := hid (show letB also.data.toList s[k] = true by unfold letB; rw [hc, Bool.or_true])
          have d3 : decide (Lib.indexByte also.data.toList s[k] < 0) = false := by rw [indexByte_neg, hc]; rfl
          clear hc hu
          go_wp2_with fail
          refine (idxB_any also _ s[k] (by simp) _).mono ?_
          rintro e w' ⟨rfl, rfl⟩
          go_wp2
          go_round
          case rel => exact ⟨k + 1, by omega, by go_num, hid (by rw [HA.out, H.out, HU.out]; rfl)⟩
          case measure => simp [RowKit.intOf]; omega
        | false =>
          have HU := hid (HF.out (by unfold letB; rw [hc, hu]; rfl))
          have d3 : decide (Lib.indexByte also.data.toList s[k] < 0) = true := by rw [indexByte_neg, hc]; rfl
          clear hc hu
          go_wp2_with fail
          refine (idxB_any also _ s[k] (by simp) _).mono ?_
          rintro e w' ⟨rfl, rfl⟩
          go_wp2
          go_ret
          exact ⟨ret_bool (by unfold lettersB; rw [HU.out]), rfl⟩
    · obtain rfl : k = s.size := by omega
      have HU := hid (show s.data.toList.all (letB also.data.toList) = true by
        have := H.out
        rw [List.take_of_length_le (by simp)] at this; exact this)
      clear H
      go_wp2
      go_ret
      exact ⟨ret_bool (by unfold lettersB; rw [HU.out]), rfl⟩
def amtB (x : Int) : Bool := decide (0 ≤ x) && decide (x ≤ 1125899906842624)
theorem amt_cases (x : Int) : (x < 0 ∧ amtB x = false) ∨ (0 ≤ x ∧ mayI x = true ∧ amtB x = true) ∨ (0 ≤ x ∧ mayI x = false ∧ amtB x = false) := by
  unfold amtB mayI
  by_cases h0 : 0 ≤ x
  · by_cases h1 : x ≤ 1125899906842624
    · right; left; simp [h0, h1]; omega
    · right; right; simp [h0, h1]
  · left; simp; omega
set_option maxHeartbeats 2000000 in
theorem amounts_any (a : Option Addr) (n cap : Nat) (xs : List Int) (w : World) (hn : xs.length = n) (hr : Row w a (xs.map (.int .i64))) (hm : n ≤ 9223372036854775807) :
    Calls Tryz.prog 124 #[.slice a n cap] w fun e w' => e = .returned (.bool (xs.all amtB)) ∧ Below w.heap.size w w' := by
  subst hn
  have Hr := hid hr
  clear hr
  go_enter Tryz.func124, Tryz.ntmps124
  go_wp2
  go_loopw [7] (fun i wr => ∃ k : Nat, k ≤ xs.length ∧ i = .int .i64 k ∧ Hid ((xs.take k).all amtB = true) ∧ Aside (Below w.heap.size w wr)) (fun i _ => xs.length - (RowKit.intOf i).toNat)
  case atStart => exact ⟨0, Nat.zero_le _, rfl, rfl, Below.refl _ _⟩
  case round =>
    obtain ⟨k, hk, rfl, H, hb⟩ := hrel
    by_cases hlt : k < xs.length
    · obtain ⟨b, off, rfl, hc⟩ := (Hr.out.kept hb.out).int k hlt
      have hs := all_take_succ (p := amtB) hlt
      have hf : amtB (xs.getD k 0) = false → xs.all amtB = false := fun h => by
        cases hc : xs.all amtB with
        | false => rfl
        | true =>
          have := List.all_eq_true.1 hc xs[k] (List.getElem_mem hlt)
          rw [show xs.getD k 0 = xs[k] by simp [List.getD_eq_getElem?_getD, hlt], this] at h; cases h
      generalize xs.getD k 0 = x at *
      have HS := hid hs
      have HF := hid hf
      clear hs hf
      rcases amt_cases x with ⟨h1, h2⟩ | ⟨h1, h2, h3⟩ | ⟨h1, h2, h3⟩
      · have d1 : decide (x < 0) = true := decide_eq_true h1
        have HU := hid (HF.out h2)
        clear h2
        go_wp2
        go_ret
        exact ⟨ret_bool (by rw [HU.out]), hb.out⟩
      · have d1 : decide (x < 0) = false := decide_eq_false (by omega)
        have d2 : (errI x != 0) = false := by simp [errI, h2]
        have H3 := hid h3
        clear h2 h3
        go_wp2_with fail
        refine (check_any _ _).mono ?_
        rintro e w2 ⟨rfl, hb2⟩
        go_wp2
        go_roundw
        case rel => exact ⟨k + 1, by omega, by go_num, hid (by rw [HS.out, H.out, H3.out]; rfl), bt hb.out hb2⟩
        case measure => simp [RowKit.intOf]; omega
      · have d1 : decide (x < 0) = false := decide_eq_false (by omega)
        have d2 : (errI x != 0) = true := by simp [errI, h2]
        have HU := hid (HF.out h3)
        clear h2 h3
        go_wp2_with fail
        refine (check_any _ _).mono ?_
        rintro e w2 ⟨rfl, hb2⟩
        go_wp2
        go_ret
        exact ⟨ret_bool (by rw [HU.out]), bt hb.out hb2⟩
    · obtain rfl : k = xs.length := by omega
      have HU := hid (show xs.all amtB = true by have := H.out; rw [List.take_length] at this; exact this)
      clear H
      go_wp2
      go_ret
      exact ⟨ret_bool (by rw [HU.out]), hb.out⟩
end Go.Proofs.YtmhbpifhpolghaaGreat
end
