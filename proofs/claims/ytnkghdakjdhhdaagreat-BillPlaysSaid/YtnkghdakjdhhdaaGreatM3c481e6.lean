/- Money6, Money7, Tick1. -/
import Derived.Test.YtnkghdakjdhhdaaGreatRows
import Derived.Test.YtnkghdakjdhhdaaGreatM84365cf
import Derived.Lib.Bytealg
import Derived.Deep.LoopGhost
set_option maxRecDepth 100000
set_option linter.unusedVariables false
set_option linter.unusedSimpArgs false
set_option linter.unusedSectionVars false
section
namespace Go.Proofs.YtnkghdakjdhhdaaGreat
open Go.RowKit Go.Lib Go.Tk
set_option maxHeartbeats 400000 in
theorem rpart_bad (a n f : Int) (w : World) (h : ¬ PartOk a n f) :
    Calls Tryz.prog 163 #[.int .i64 a, .int .i64 n, .int .i64 f] w fun e w' => e = .returned (.tuple #[.int .i64 (partW a n f), .int .i64 (partR a n f), .int .i64 (partE a n f)]) ∧ w = w' := by
  have F := hid (part_no h)
  by_cases h1 : a < 0
  · go_enter Tryz.func163, Tryz.ntmps163
    go_wp2
    go_ret3
    exact ⟨F.out, rfl⟩
  cases h2 : mayI a
  · go_enter Tryz.func163, Tryz.ntmps163
    go_wp2_with (go_at_call 102; refine (rmay_any _ _).mono ?_; rintro e w' ⟨rfl, rfl⟩)
    go_ret3
    exact ⟨F.out, rfl⟩
  obtain ⟨_, h2'⟩ := mayI_of h2
  have h3 : n < 0 ∨ (0 ≤ n ∧ f < 1) ∨ (0 ≤ n ∧ 1 ≤ f ∧ f < n) ∨ (0 ≤ n ∧ 1 ≤ f ∧ n ≤ f ∧ 1099511627776 < f) := by unfold PartOk at h; omega
  clear h
  rcases h3 with h3 | ⟨h3, h4⟩ | ⟨h3, h4, h5⟩ | ⟨h3, h4, h5, h6⟩
  all_goals
    go_enter Tryz.func163, Tryz.ntmps163
    go_wp2_with (go_at_call 102; refine (rmay_any _ _).mono ?_; rintro e w' ⟨rfl, rfl⟩)
    go_ret3
    exact ⟨F.out, rfl⟩
def LongAt (a n f : Int) (j : Nat) (W R : Int) : Prop := W * f + R = a / 2 ^ j * n ∧ 0 ≤ R ∧ R < f
theorem long_le {a n f : Int} {j : Nat} {W R : Int} (h : W * f + R = a / 2 ^ j * n) (hR : 0 ≤ R) (hok : PartOk a n f) : W ≤ a := by
  obtain ⟨h1, h2, h3, h4, h5, h6⟩ := hok
  have hp : (0 : Int) < 2 ^ j := Int.pow_pos (by decide)
  have k1 : a / 2 ^ j ≤ a := Int.ediv_le_self _ h1
  have k2 : a / 2 ^ j * n ≤ a * f := Int.le_trans (Int.mul_le_mul_of_nonneg_right k1 h3) (Int.mul_le_mul_of_nonneg_left h5 h1)
  have k3 : W * f ≤ a * f := by omega
  exact Int.le_of_mul_le_mul_right k3 (by omega)
theorem and1 (x : Int) (h0 : 0 ≤ x) (h1 : x < 4611686018427387904) : bits .and .i64 x 1 = x % 2 :=
  bits_mask .i64 62 (by decide) wraps_i64 1 (by decide) x h0 h1
theorem long_bit {a : Int} {i : Nat} : a / 2 ^ i = a / 2 ^ (i + 1) * 2 + a / 2 ^ i % 2 := by
  have : a / 2 ^ (i + 1) = a / 2 ^ i / 2 := by rw [Int.pow_succ, Int.ediv_ediv_of_nonneg (Int.le_of_lt (Int.pow_pos (by decide)))]
  omega
set_option maxHeartbeats 1000000 in
theorem rpart_good (a n f : Int) (w : World) (h : PartOk a n f) :
    Calls Tryz.prog 163 #[.int .i64 a, .int .i64 n, .int .i64 f] w fun e w' => e = .returned (.tuple #[.int .i64 (partW a n f), .int .i64 (partR a n f), .int .i64 (partE a n f)]) ∧ w = w' := by
  have H := hid h
  obtain ⟨h1, h2, h3, h4, h5, h6⟩ := h
  have hm : mayI a = true := by simp [mayI]; omega
  go_enter Tryz.func163, Tryz.ntmps163
  go_wp2_with (go_at_call 102; refine (rmay_any _ _).mono ?_; rintro e w' ⟨rfl, rfl⟩)
  go_loop [9, 10, 11] (fun x y z => ∃ (j : Nat) (W R : Int), j ≤ 51 ∧ z = .int .i64 ((j : Int) - 1) ∧ x = .int .i64 W ∧ y = .int .i64 R ∧ 0 ≤ W ∧ Hid (LongAt a n f j W R)) (fun _ _ z => (RowKit.intOf z + 1).toNat)
  case atStart => exact ⟨51, 0, 0, by omega, rfl, rfl, rfl, by omega, hid ⟨by rw [show a / 2 ^ 51 = 0 by omega]; omega, by omega, by omega⟩⟩
  case round =>
    obtain ⟨j, W, R, hj, rfl, rfl, rfl, hW, hL⟩ := hrel
    obtain ⟨-, hR0, hR1⟩ := hL.out
    have hWa := long_le hL.out.1 hR0 H.out
    cases j with
    | zero =>
      have L := hL.out
      clear hL
      have e1 : W = a * n / f := by
        have h := L.1
        rw [Int.pow_zero, Int.ediv_one] at h
        rw [← h, Int.add_comm, Int.add_mul_ediv_right _ _ (by omega), Int.ediv_eq_zero_of_lt hR0 hR1]; omega
      have e2 : R = a * n % f := by
        have h := L.1
        rw [Int.pow_zero, Int.ediv_one] at h
        rw [← h, Int.add_comm, Int.add_mul_emod_self_right, Int.emod_eq_of_lt hR0 hR1]
      have E1 := hid e1
      have E2 := hid e2
      clear e1 e2 L
      go_wp2
      go_ret3
      exact ⟨ret_i3 (by rw [partW, if_pos H.out, E1.out]) (by rw [partR, if_pos H.out, E2.out]) (by rw [partE, if_pos H.out]), rfl⟩
    | succ i =>
      simp only [Int.natCast_add, Int.cast_ofNat_Int, Int.add_sub_cancel]
      have hp : (0 : Int) < 2 ^ i := Int.pow_pos (by decide)
      have ha0 : 0 ≤ a / 2 ^ i := Int.ediv_nonneg h1 (by omega)
      have ha1 : a / 2 ^ i ≤ a := Int.ediv_le_self _ h1
      have hb := long_bit (a := a) (i := i)
      have he := and1 (a / 2 ^ i) ha0 (by omega)
      have L1 := hL.out.1
      have hb2 : a / 2 ^ i % 2 = 1 ∨ a / 2 ^ i % 2 = 0 := by omega
      have hj' : i ≤ 50 := by omega
      rcases hb2 with hb2 | hb2
      · have hc : (bits BinOp.and IntKind.i64 (a / 2 ^ i) 1 == 1) = true := by rw [he, hb2]; rfl
        have hE : Hid (W * 2 * f + (R * 2 + n) = a / 2 ^ i * n) := by
          unfold Hid
          rw [hb, hb2, Int.add_mul, Int.one_mul, Int.mul_right_comm, Int.mul_right_comm _ 2 n, ← L1]; omega
        clear hb he hb2 hL L1
        go_wp2
        go_loop [9, 10] (fun x y => ∃ (U T : Int), x = .int .i64 U ∧ y = .int .i64 T ∧ 0 ≤ U ∧ 0 ≤ T ∧ T ≤ 3298534883328 ∧ Hid (U * f + T = a / 2 ^ i * n)) (fun _ y => (RowKit.intOf y).toNat)
        case atStart => exact ⟨_, _, rfl, rfl, by omega, by omega, by omega, hE⟩
        case round =>
          obtain ⟨U, T, rfl, rfl, hU, hT0, hT1, hUT⟩ := hrel
          have hUa := long_le hUT.out hT0 H.out
          by_cases hTf : f ≤ T
          · go_wp2
            go_round
            case rel => exact ⟨_, _, rfl, rfl, by omega, by omega, by omega, hid (by rw [Int.add_mul, Int.one_mul, ← hUT.out]; omega)⟩
            case measure => simp [RowKit.intOf]; omega
          · have hL' : Hid (LongAt a n f i U T) := ⟨hUT.out, hT0, by omega⟩
            go_wp2
            go_round
            case rel => exact ⟨i, _, _, by omega, rfl, rfl, rfl, hU, hL'⟩
            case measure => simp [RowKit.intOf]
      · have hc : (bits BinOp.and IntKind.i64 (a / 2 ^ i) 1 == 1) = false := by rw [he, hb2]; rfl
        have hE : Hid (W * 2 * f + R * 2 = a / 2 ^ i * n) := by
          unfold Hid
          rw [hb, hb2, Int.add_zero, Int.mul_right_comm, Int.mul_right_comm _ 2 n, ← L1]; omega
        clear hb he hb2 hL L1
        go_wp2
        go_loop [9, 10] (fun x y => ∃ (U T : Int), x = .int .i64 U ∧ y = .int .i64 T ∧ 0 ≤ U ∧ 0 ≤ T ∧ T ≤ 3298534883328 ∧ Hid (U * f + T = a / 2 ^ i * n)) (fun _ y => (RowKit.intOf y).toNat)
        case atStart => exact ⟨_, _, rfl, rfl, by omega, by omega, by omega, hE⟩
        case round =>
          obtain ⟨U, T, rfl, rfl, hU, hT0, hT1, hUT⟩ := hrel
          have hUa := long_le hUT.out hT0 H.out
          by_cases hTf : f ≤ T
          · go_wp2
            go_round
            case rel => exact ⟨_, _, rfl, rfl, by omega, by omega, by omega, hid (by rw [Int.add_mul, Int.one_mul, ← hUT.out]; omega)⟩
            case measure => simp [RowKit.intOf]; omega
          · have hL' : Hid (LongAt a n f i U T) := ⟨hUT.out, hT0, by omega⟩
            go_wp2
            go_round
            case rel => exact ⟨i, _, _, by omega, rfl, rfl, rfl, hU, hL'⟩
            case measure => simp [RowKit.intOf]
end Go.Proofs.YtnkghdakjdhhdaaGreat
end
section
namespace Go.Proofs.YtnkghdakjdhhdaaGreat
open Go.RowKit Go.Lib Go.Tk
theorem part_any (a n f : Int) (w : World) :
    Calls Tryz.prog 156 #[.int .i64 a, .int .i64 n, .int .i64 f] w fun e w' => e = .returned (.tuple #[.int .i64 (partW a n f), .int .i64 (partR a n f), .int .i64 (partE a n f)]) ∧ Below w.heap.size w w' := by
  by_cases h : PartOk a n f
  · exact part_good a n f w h
  · exact part_bad a n f w h
theorem rpart_any (a n f : Int) (w : World) :
    Calls Tryz.prog 163 #[.int .i64 a, .int .i64 n, .int .i64 f] w fun e w' => e = .returned (.tuple #[.int .i64 (partW a n f), .int .i64 (partR a n f), .int .i64 (partE a n f)]) ∧ w = w' := by
  by_cases h : PartOk a n f
  · exact rpart_good a n f w h
  · exact rpart_bad a n f w h
end Go.Proofs.YtnkghdakjdhhdaaGreat
end
section
namespace Go.Proofs.YtnkghdakjdhhdaaGreat
open Go.RowKit Go.Lib Go.Tk
theorem indexByte_ge : ∀ (l : List UInt8) (c : UInt8), -1 ≤ Lib.indexByte l c
  | [], _ => by simp [Lib.indexByte]
  | b :: l, c => by
    have := indexByte_ge l c
    unfold Lib.indexByte
    split
    · omega
    · split <;> omega
theorem indexByte_neg : ∀ (l : List UInt8) (c : UInt8), decide (Lib.indexByte l c < 0) = !l.contains c
  | [], c => by simp [Lib.indexByte]
  | b :: l, c => by
    have h1 := indexByte_neg l c
    have h2 := indexByte_ge l c
    unfold Lib.indexByte
    by_cases hb : b = c
    · subst hb; simp
    · have hb' : (b == c) = false := by simpa using hb
      rw [hb', if_neg (by decide)]
      have hc : (b :: l).contains c = l.contains c := by
        rw [List.contains_cons]
        have : (c == b) = false := by simpa using Ne.symm hb
        rw [this, Bool.false_or]
      rw [hc, ← h1]
      split
      · rename_i h; have h : Lib.indexByte l c = -1 := by simpa using h
        simp [h]
      · rename_i h; have h : Lib.indexByte l c ≠ -1 := by simpa using h
        rw [decide_eq_decide]; omega
set_option maxHeartbeats 400000 in
theorem idxSL_any (s : ByteArray) (c : Int) (w : World) : Calls Tryz.prog 196 #[.string s, .int .u8 c] w fun e w' => e = .returned (.int .i64 (Lib.indexByte s.data.toList c.toNat.toUInt8)) ∧ w = w' := by
  go_enter Tryz.func196, Tryz.ntmps196
  go_wp2
  rw [run_callFunc_extern Tryz.func208 (by kernel_rfl) (by kernel_rfl) (by kernel_rfl) (e := Extern.BytealgIndexByte.indexByte) (by kernel_rfl), Lib.run_indexByteString]
  simp only [Result.andThen]
  rw [Oper.upon_value]
  go_wp2
  go_ret
  exact ⟨rfl, rfl⟩
set_option maxHeartbeats 400000 in
theorem idxB_any (s : ByteArray) (c : Int) (x : UInt8) (hx : c.toNat.toUInt8 = x) (w : World) : Calls Tryz.prog 170 #[.string s, .int .u8 c] w fun e w' => e = .returned (.int .i64 (Lib.indexByte s.data.toList x)) ∧ w = w' := by
  have HX := hid hx
  clear hx
  go_enter Tryz.func170, Tryz.ntmps170
  go_wp2_with fail
  refine (idxSL_any s c w).mono ?_
  rintro e w' ⟨rfl, rfl⟩
  rw [HX.out]
  go_wp2
  go_ret
  exact ⟨rfl, rfl⟩
def upB (c : UInt8) : Bool := decide (65 ≤ (c.toNat : Int)) && decide ((c.toNat : Int) ≤ 90)
def letB (also : List UInt8) (c : UInt8) : Bool := upB c || also.contains c
def lettersB (also l : List UInt8) : Bool := l.all (letB also)
theorem all_snoc (p : UInt8 → Bool) (s : ByteArray) (k : Nat) (h : k < s.size) : (s.data.toList.take (k + 1)).all p = ((s.data.toList.take k).all p && p s[k]) := by
  have h' : k < s.data.toList.length := by simpa using h
  rw [List.take_succ_eq_append_getElem h', List.all_append]
  simp; rfl
theorem all_false (p : UInt8 → Bool) (s : ByteArray) (k : Nat) (h : k < s.size) (hp : p s[k] = false) : s.data.toList.all p = false := by
  have h' : k < s.data.toList.length := by simpa using h
  cases hc : s.data.toList.all p with
  | false => rfl
  | true =>
    have := List.all_eq_true.1 hc s.data.toList[k] (List.getElem_mem h')
    rw [show s.data.toList[k] = s[k] from rfl, hp] at this; cases this
set_option maxHeartbeats 2000000 in
theorem letters_any (s also : ByteArray) (w : World) (hs : s.size ≤ maxLen) :
    Calls Tryz.prog 145 #[.string s, .string also] w fun e w' => e = .returned (.bool (lettersB also.data.toList s.data.toList)) ∧ w = w' := by
  unfold maxLen at hs
  go_enter Tryz.func145, Tryz.ntmps145
  go_wp2
  go_loop [8] (fun i => ∃ k : Nat, k ≤ s.size ∧ i = .int .i64 k ∧ Hid ((s.data.toList.take k).all (letB also.data.toList) = true)) (fun i => s.size - (RowKit.intOf i).toNat)
  case atStart => exact ⟨0, Nat.zero_le _, rfl, rfl⟩
  case round =>
    obtain ⟨k, hk, rfl, H⟩ := hrel
    by_cases hlt : k < s.size
    · have HA := hid (all_snoc (letB also.data.toList) s k hlt)
      have HF := hid (all_false (letB also.data.toList) s k hlt)
      by_cases h1 : (65 : Int) ≤ (s[k].toNat : Int)
      · have d1 : decide ((s[k].toNat : Int) < 65) = false := decide_eq_false (by omega)
        by_cases h2 : (s[k].toNat : Int) ≤ 90
        · have d2 : decide ((s[k].toNat : Int) > 90) = false := decide_eq_false (by omega)
          have HU := hid (show letB also.data.toList s[k] = true by unfold letB upB; simp only [decide_eq_true h1, decide_eq_true h2]; rfl)
          go_wp2
          go_round
          case rel => exact ⟨k + 1, by omega, by go_num, hid (by rw [HA.out, H.out, HU.out]; rfl)⟩
          case measure => simp [RowKit.intOf]; omega
        · have d2 : decide ((s[k].toNat : Int) > 90) = true := decide_eq_true (by omega)
          have hu : upB s[k] = false := by unfold upB; rw [decide_eq_false h2, Bool.and_false]
          cases hc : also.data.toList.contains s[k] with
          | true =>
            have HU := hid (show letB also.data.toList s[k] = true by unfold letB; rw [hc, Bool.or_true])
            have d3 : decide (Lib.indexByte also.data.toList s[k] < 0) = false := by rw [indexByte_neg, hc]; rfl
            clear hc hu
            go_wp2_with fail
            refine (idxB_any also _ s[k] (by simp) _).mono ?_
            rintro e w' ⟨rfl, rfl⟩
            go_wp2
            go_round
            case rel => exact ⟨k + 1, by omega, by go_num, hid (by rw [HA.out, H.out, HU.out]; rfl)⟩
            case measure => simp [RowKit.intOf]; omega
          | false =>
            have HU := hid (HF.out (by unfold letB; rw [hc, hu]; rfl))
            have d3 : decide (Lib.indexByte also.data.toList s[k] < 0) = true := by rw [indexByte_neg, hc]; rfl
            clear hc hu
            go_wp2_with fail
            refine (idxB_any also _ s[k] (by simp) _).mono ?_
            rintro e w' ⟨rfl, rfl⟩
            go_wp2
            go_ret
            exact ⟨ret_bool (by unfold lettersB; rw [HU.out]), rfl⟩
      · have d1 : decide ((s[k].toNat : Int) < 65) = true := decide_eq_true (by omega)
        have hu : upB s[k] = false := by unfold upB; rw [decide_eq_false h1, Bool.false_and]
        cases hc : also.data.toList.contains s[k] with
        | true =>
          have HU := hid (show letB also.data.toList s[k] = true by unfold letB; rw [hc, Bool.or_true])
          have d3 : decide (Lib.indexByte also.data.toList s[k] < 0) = false := by rw [indexByte_neg, hc]; rfl
          clear hc hu
          go_wp2_with fail
          refine (idxB_any also _ s[k] (by simp) _).mono ?_
          rintro e w' ⟨rfl, rfl⟩
          go_wp2
          go_round
          case rel => exact ⟨k + 1, by omega, by go_num, hid (by rw [HA.out, H.out, HU.out]; rfl)⟩
          case measure => simp [RowKit.intOf]; omega
        | false =>
          have HU := hid (HF.out (by unfold letB; rw [hc, hu]; rfl))
          have d3 : decide (Lib.indexByte also.data.toList s[k] < 0) = true := by rw [indexByte_neg, hc]; rfl
          clear hc hu
          go_wp2_with fail
          refine (idxB_any also _ s[k] (by simp) _).mono ?_
          rintro e w' ⟨rfl, rfl⟩
          go_wp2
          go_ret
          exact ⟨ret_bool (by unfold lettersB; rw [HU.out]), rfl⟩
    · obtain rfl : k = s.size := by omega
      have HU := hid (show s.data.toList.all (letB also.data.toList) = true by
        have := H.out
        rw [List.take_of_length_le (by simp)] at this; exact this)
      clear H
      go_wp2
      go_ret
      exact ⟨ret_bool (by unfold lettersB; rw [HU.out]), rfl⟩
def amtB (x : Int) : Bool := decide (0 ≤ x) && decide (x ≤ 1125899906842624)
theorem amt_cases (x : Int) : (x < 0 ∧ amtB x = false) ∨ (0 ≤ x ∧ mayI x = true ∧ amtB x = true) ∨ (0 ≤ x ∧ mayI x = false ∧ amtB x = false) := by
  unfold amtB mayI
  by_cases h0 : 0 ≤ x
  · by_cases h1 : x ≤ 1125899906842624
    · right; left; simp [h0, h1]; omega
    · right; right; simp [h0, h1]
  · left; simp; omega
set_option maxHeartbeats 2000000 in
theorem amounts_any (a : Option Addr) (n cap : Nat) (xs : List Int) (w : World) (hn : xs.length = n) (hr : Row w a (xs.map (.int .i64))) (hm : n ≤ 9223372036854775807) :
    Calls Tryz.prog 148 #[.slice a n cap] w fun e w' => e = .returned (.bool (xs.all amtB)) ∧ Below w.heap.size w w' := by
  subst hn
  have Hr := hid hr
  clear hr
  go_enter Tryz.func148, Tryz.ntmps148
  go_wp2
  go_loopw [7] (fun i wr => ∃ k : Nat, k ≤ xs.length ∧ i = .int .i64 k ∧ Hid ((xs.take k).all amtB = true) ∧ Aside (Below w.heap.size w wr)) (fun i _ => xs.length - (RowKit.intOf i).toNat)
  case atStart => exact ⟨0, Nat.zero_le _, rfl, rfl, Below.refl _ _⟩
  case round =>
    obtain ⟨k, hk, rfl, H, hb⟩ := hrel
    by_cases hlt : k < xs.length
    · obtain ⟨b, off, rfl, hc⟩ := (Hr.out.kept hb.out).int k hlt
      have hs := all_take_succ (p := amtB) hlt
      have hf : amtB (xs.getD k 0) = false → xs.all amtB = false := fun h => by
        cases hc : xs.all amtB with
        | false => rfl
        | true =>
          have := List.all_eq_true.1 hc xs[k] (List.getElem_mem hlt)
          rw [show xs.getD k 0 = xs[k] by simp [List.getD_eq_getElem?_getD, hlt], this] at h; cases h
      generalize xs.getD k 0 = x at *
      have HS := hid hs
      have HF := hid hf
      clear hs hf
      rcases amt_cases x with ⟨h1, h2⟩ | ⟨h1, h2, h3⟩ | ⟨h1, h2, h3⟩
      · have d1 : decide (x < 0) = true := decide_eq_true h1
        have HU := hid (HF.out h2)
        clear h2
        go_wp2
        go_ret
        exact ⟨ret_bool (by rw [HU.out]), hb.out⟩
      · have d1 : decide (x < 0) = false := decide_eq_false (by omega)
        have d2 : (errI x != 0) = false := by simp [errI, h2]
        have H3 := hid h3
        clear h2 h3
        go_wp2_with fail
        refine (check_any _ _).mono ?_
        rintro e w2 ⟨rfl, hb2⟩
        go_wp2
        go_roundw
        case rel => exact ⟨k + 1, by omega, by go_num, hid (by rw [HS.out, H.out, H3.out]; rfl), bt hb.out hb2⟩
        case measure => simp [RowKit.intOf]; omega
      · have d1 : decide (x < 0) = false := decide_eq_false (by omega)
        have d2 : (errI x != 0) = true := by simp [errI, h2]
        have HU := hid (HF.out h3)
        clear h2 h3
        go_wp2_with fail
        refine (check_any _ _).mono ?_
        rintro e w2 ⟨rfl, hb2⟩
        go_wp2
        go_ret
        exact ⟨ret_bool (by rw [HU.out]), bt hb.out hb2⟩
    · obtain rfl : k = xs.length := by omega
      have HU := hid (show xs.all amtB = true by have := H.out; rw [List.take_length] at this; exact this)
      clear H
      go_wp2
      go_ret
      exact ⟨ret_bool (by rw [HU.out]), hb.out⟩
end Go.Proofs.YtnkghdakjdhhdaaGreat
end
