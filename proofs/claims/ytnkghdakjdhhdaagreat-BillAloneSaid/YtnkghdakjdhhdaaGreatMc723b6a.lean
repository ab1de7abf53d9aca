/- Money6, Money7, Tick1, Tick2, Bk0. -/
import Derived.Test.YtnkghdakjdhhdaaGreatRows
import Derived.Test.YtnkghdakjdhhdaaGreatM84365cf
import Derived.Lib.Bytealg
import Derived.Deep.LoopGhost
import Derived.Test.YtnkghdakjdhhdaaGreatM64f4c37
import Derived.BigRegion
import Derived.Test.YtnkghdakjdhhdaaGreatSxE
set_option maxRecDepth 100000
set_option linter.unusedVariables false
set_option linter.unusedSimpArgs false
set_option linter.unusedSectionVars false
section
namespace Go.Proofs.YtnkghdakjdhhdaaGreat
open Go.RowKit Go.Lib Go.Tk
set_option maxHeartbeats 400000 in
theorem rpart_bad (a n f : Int) (w : World) (h : ¬ PartOk a n f) :
    Calls Tryz.prog 163 #[.int .i64 a, .int .i64 n, .int .i64 f] w fun e w' => e = .returned (.tuple #[.int .i64 (partW a n f), .int .i64 (partR a n f), .int .i64 (partE a n f)]) ∧ w = w' := by
  have F := hid (part_no h)
  by_cases h1 : a < 0
  · go_enter Tryz.func163, Tryz.ntmps163
    go_wp2
    go_ret3
    exact ⟨F.out, rfl⟩
  cases h2 : mayI a
  · go_enter Tryz.func163, Tryz.ntmps163
    go_wp2_with (go_at_call 102; refine (rmay_any _ _).mono ?_; rintro e w' ⟨rfl, rfl⟩)
    go_ret3
    exact ⟨F.out, rfl⟩
  obtain ⟨_, h2'⟩ := mayI_of h2
  have h3 : n < 0 ∨ (0 ≤ n ∧ f < 1) ∨ (0 ≤ n ∧ 1 ≤ f ∧ f < n) ∨ (0 ≤ n ∧ 1 ≤ f ∧ n ≤ f ∧ 1099511627776 < f) := by unfold PartOk at h; omega
  clear h
  rcases h3 with h3 | ⟨h3, h4⟩ | ⟨h3, h4, h5⟩ | ⟨h3, h4, h5, h6⟩
  all_goals
    go_enter Tryz.func163, Tryz.ntmps163
    go_wp2_with (go_at_call 102; refine (rmay_any _ _).mono ?_; rintro e w' ⟨rfl, rfl⟩)
    go_ret3
    exact ⟨F.out, rfl⟩
def LongAt (a n f : Int) (j : Nat) (W R : Int) : Prop := W * f + R = a / 2 ^ j * n ∧ 0 ≤ R ∧ R < f
theorem long_le {a n f : Int} {j : Nat} {W R : Int} (h : W * f + R = a / 2 ^ j * n) (hR : 0 ≤ R) (hok : PartOk a n f) : W ≤ a := by
  obtain ⟨h1, h2, h3, h4, h5, h6⟩ := hok
  have hp : (0 : Int) < 2 ^ j := Int.pow_pos (by decide)
  have k1 : a / 2 ^ j ≤ a := Int.ediv_le_self _ h1
  have k2 : a / 2 ^ j * n ≤ a * f := Int.le_trans (Int.mul_le_mul_of_nonneg_right k1 h3) (Int.mul_le_mul_of_nonneg_left h5 h1)
  have k3 : W * f ≤ a * f := by omega
  exact Int.le_of_mul_le_mul_right k3 (by omega)
theorem and1 (x : Int) (h0 : 0 ≤ x) (h1 : x < 4611686018427387904) : bits .and .i64 x 1 = x % 2 :=
  bits_mask .i64 62 (by decide) wraps_i64 1 (by decide) x h0 h1
theorem long_bit {a : Int} {i : Nat} : a / 2 ^ i = a / 2 ^ (i + 1) * 2 + a / 2 ^ i % 2 := by
  have : a / 2 ^ (i + 1) = a / 2 ^ i / 2 := by rw [Int.pow_succ, Int.ediv_ediv_of_nonneg (Int.le_of_lt (Int.pow_pos (by decide)))]
  omega
set_option maxHeartbeats 1000000 in
theorem rpart_good (a n f : Int) (w : World) (h : PartOk a n f) :
    Calls Tryz.prog 163 #[.int .i64 a, .int .i64 n, .int .i64 f] w fun e w' => e = .returned (.tuple #[.int .i64 (partW a n f), .int .i64 (partR a n f), .int .i64 (partE a n f)]) ∧ w = w' := by
  have H := hid h
  obtain ⟨h1, h2, h3, h4, h5, h6⟩ := h
  have hm : mayI a = true := by simp [mayI]; omega
  go_enter Tryz.func163, Tryz.ntmps163
  go_wp2_with (go_at_call 102; refine (rmay_any _ _).mono ?_; rintro e w' ⟨rfl, rfl⟩)
  go_loop [9, 10, 11] (fun x y z => ∃ (j : Nat) (W R : Int), j ≤ 51 ∧ z = .int .i64 ((j : Int) - 1) ∧ x = .int .i64 W ∧ y = .int .i64 R ∧ 0 ≤ W ∧ Hid (LongAt a n f j W R)) (fun _ _ z => (RowKit.intOf z + 1).toNat)
  case atStart => exact ⟨51, 0, 0, by omega, rfl, rfl, rfl, by omega, hid ⟨by rw [show a / 2 ^ 51 = 0 by omega]; omega, by omega, by omega⟩⟩
  case round =>
    obtain ⟨j, W, R, hj, rfl, rfl, rfl, hW, hL⟩ := hrel
    obtain ⟨-, hR0, hR1⟩ := hL.out
    have hWa := long_le hL.out.1 hR0 H.out
    cases j with
    | zero =>
      have L := hL.out
      clear hL
      have e1 : W = a * n / f := by
        have h := L.1
        rw [Int.pow_zero, Int.ediv_one] at h
        rw [← h, Int.add_comm, Int.add_mul_ediv_right _ _ (by omega), Int.ediv_eq_zero_of_lt hR0 hR1]; omega
      have e2 : R = a * n % f := by
        have h := L.1
        rw [Int.pow_zero, Int.ediv_one] at h
        rw [← h, Int.add_comm, Int.add_mul_emod_self_right, Int.emod_eq_of_lt hR0 hR1]
      have E1 := hid e1
      have E2 := hid e2
      clear e1 e2 L
      go_wp2
      go_ret3
      exact ⟨ret_i3 (by rw [partW, if_pos H.out, E1.out]) (by rw [partR, if_pos H.out, E2.out]) (by rw [partE, if_pos H.out]), rfl⟩
    | succ i =>
      simp only [Int.natCast_add, Int.cast_ofNat_Int, Int.add_sub_cancel]
      have hp : (0 : Int) < 2 ^ i := Int.pow_pos (by decide)
      have ha0 : 0 ≤ a / 2 ^ i := Int.ediv_nonneg h1 (by omega)
      have ha1 : a / 2 ^ i ≤ a := Int.ediv_le_self _ h1
      have hb := long_bit (a := a) (i := i)
      have he := and1 (a / 2 ^ i) ha0 (by omega)
      have L1 := hL.out.1
      have hb2 : a / 2 ^ i % 2 = 1 ∨ a / 2 ^ i % 2 = 0 := by omega
      have hj' : i ≤ 50 := by omega
      rcases hb2 with hb2 | hb2
      · have hc : (bits BinOp.and IntKind.i64 (a / 2 ^ i) 1 == 1) = true := by rw [he, hb2]; rfl
        have hE : Hid (W * 2 * f + (R * 2 + n) = a / 2 ^ i * n) := by
          unfold Hid
          rw [hb, hb2, Int.add_mul, Int.one_mul, Int.mul_right_comm, Int.mul_right_comm _ 2 n, ← L1]; omega
        clear hb he hb2 hL L1
        go_wp2
        go_loop [9, 10] (fun x y => ∃ (U T : Int), x = .int .i64 U ∧ y = .int .i64 T ∧ 0 ≤ U ∧ 0 ≤ T ∧ T ≤ 3298534883328 ∧ Hid (U * f + T = a / 2 ^ i * n)) (fun _ y => (RowKit.intOf y).toNat)
        case atStart => exact ⟨_, _, rfl, rfl, by omega, by omega, by omega, hE⟩
        case round =>
          obtain ⟨U, T, rfl, rfl, hU, hT0, hT1, hUT⟩ := hrel
          have hUa := long_le hUT.out hT0 H.out
          by_cases hTf : f ≤ T
          · go_wp2
            go_round
            case rel => exact ⟨_, _, rfl, rfl, by omega, by omega, by omega, hid (by rw [Int.add_mul, Int.one_mul, ← hUT.out]; omega)⟩
            case measure => simp [RowKit.intOf]; omega
          · have hL' : Hid (LongAt a n f i U T) := ⟨hUT.out, hT0, by omega⟩
            go_wp2
            go_round
            case rel => exact ⟨i, _, _, by omega, rfl, rfl, rfl, hU, hL'⟩
            case measure => simp [RowKit.intOf]
      · have hc : (bits BinOp.and IntKind.i64 (a / 2 ^ i) 1 == 1) = false := by rw [he, hb2]; rfl
        have hE : Hid (W * 2 * f + R * 2 = a / 2 ^ i * n) := by
          unfold Hid
          rw [hb, hb2, Int.add_zero, Int.mul_right_comm, Int.mul_right_comm _ 2 n, ← L1]; omega
        clear hb he hb2 hL L1
        go_wp2
        go_loop [9, 10] (fun x y => ∃ (U T : Int), x = .int .i64 U ∧ y = .int .i64 T ∧ 0 ≤ U ∧ 0 ≤ T ∧ T ≤ 3298534883328 ∧ Hid (U * f + T = a / 2 ^ i * n)) (fun _ y => (RowKit.intOf y).toNat)
        case atStart => exact ⟨_, _, rfl, rfl, by omega, by omega, by omega, hE⟩
        case round =>
          obtain ⟨U, T, rfl, rfl, hU, hT0, hT1, hUT⟩ := hrel
          have hUa := long_le hUT.out hT0 H.out
          by_cases hTf : f ≤ T
          · go_wp2
            go_round
            case rel => exact ⟨_, _, rfl, rfl, by omega, by omega, by omega, hid (by rw [Int.add_mul, Int.one_mul, ← hUT.out]; omega)⟩
            case measure => simp [RowKit.intOf]; omega
          · have hL' : Hid (LongAt a n f i U T) := ⟨hUT.out, hT0, by omega⟩
            go_wp2
            go_round
            case rel => exact ⟨i, _, _, by omega, rfl, rfl, rfl, hU, hL'⟩
            case measure => simp [RowKit.intOf]
end Go.Proofs.YtnkghdakjdhhdaaGreat
end
section
namespace Go.Proofs.YtnkghdakjdhhdaaGreat
open Go.RowKit Go.Lib Go.Tk
theorem part_any (a n f : Int) (w : World) :
    Calls Tryz.prog 156 #[.int .i64 a, .int .i64 n, .int .i64 f] w fun e w' => e = .returned (.tuple #[.int .i64 (partW a n f), .int .i64 (partR a n f), .int .i64 (partE a n f)]) ∧ Below w.heap.size w w' := by
  by_cases h : PartOk a n f
  · exact part_good a n f w h
  · exact part_bad a n f w h
theorem rpart_any (a n f : Int) (w : World) :
    Calls Tryz.prog 163 #[.int .i64 a, .int .i64 n, .int .i64 f] w fun e w' => e = .returned (.tuple #[.int .i64 (partW a n f), .int .i64 (partR a n f), .int .i64 (partE a n f)]) ∧ w = w' := by
  by_cases h : PartOk a n f
  · exact rpart_good a n f w h
  · exact rpart_bad a n f w h
end Go.Proofs.YtnkghdakjdhhdaaGreat
end
section
namespace Go.Proofs.YtnkghdakjdhhdaaGreat
open Go.RowKit Go.Lib Go.Tk
theorem indexByte_ge : ∀ (l : List UInt8) (c : UInt8), -1 ≤ Lib.indexByte l c
  | [], _ => by simp [Lib.indexByte]
  | b :: l, c => by
    have := indexByte_ge l c
    unfold Lib.indexByte
    split
    · omega
    · split <;> omega
theorem indexByte_neg : ∀ (l : List UInt8) (c : UInt8), decide (Lib.indexByte l c < 0) = !l.contains c
  | [], c => by simp [Lib.indexByte]
  | b :: l, c => by
    have h1 := indexByte_neg l c
    have h2 := indexByte_ge l c
    unfold Lib.indexByte
    by_cases hb : b = c
    · subst hb; simp
    · have hb' : (b == c) = false := by simpa using hb
      rw [hb', if_neg (by decide)]
      have hc : (b :: l).contains c = l.contains c := by
        rw [List.contains_cons]
        have : (c == b) = false := by simpa using Ne.symm hb
        rw [this, Bool.false_or]
      rw [hc, ← h1]
      split
      · rename_i h; have h : Lib.indexByte l c = -1 := by simpa using h
        simp [h]
      · rename_i h; have h : Lib.indexByte l c ≠ -1 := by simpa using h
        rw [decide_eq_decide]; omega
set_option maxHeartbeats 400000 in
theorem idxSL_any (s : ByteArray) (c : Int) (w : World) : Calls Tryz.prog 196 #[.string s, .int .u8 c] w fun e w' => e = .returned (.int .i64 (Lib.indexByte s.data.toList c.toNat.toUInt8)) ∧ w = w' := by
  go_enter Tryz.func196, Tryz.ntmps196
  go_wp2
  rw [run_callFunc_extern Tryz.func208 (by kernel_rfl) (by kernel_rfl) (by kernel_rfl) (e := Extern.BytealgIndexByte.indexByte) (by kernel_rfl), Lib.run_indexByteString]
  simp only [Result.andThen]
  rw [Oper.upon_value]
  go_wp2
  go_ret
  exact ⟨rfl, rfl⟩
set_option maxHeartbeats 400000 in
theorem idxB_any (s : ByteArray) (c : Int) (x : UInt8) (hx : c.toNat.toUInt8 = x) (w : World) : Calls Tryz.prog 170 #[.string s, .int .u8 c] w fun e w' => e = .returned (.int .i64 (Lib.indexByte s.data.toList x)) ∧ w = w' := by
  have HX := hid hx
  clear hx
  go_enter Tryz.func170, Tryz.ntmps170
  go_wp2_with fail
  refine (idxSL_any s c w).mono ?_
  rintro e w' ⟨rfl, rfl⟩
  rw [HX.out]
  go_wp2
  go_ret
  exact ⟨rfl, rfl⟩
def upB (c : UInt8) : Bool := decide (65 ≤ (c.toNat : Int)) && decide ((c.toNat : Int) ≤ 90)
def letB (also : List UInt8) (c : UInt8) : Bool := upB c || also.contains c
def lettersB (also l : List UInt8) : Bool := l.all (letB also)
theorem all_snoc (p : UInt8 → Bool) (s : ByteArray) (k : Nat) (h : k < s.size) : (s.data.toList.take (k + 1)).all p = ((s.data.toList.take k).all p && p s[k]) := by
  have h' : k < s.data.toList.length := by simpa using h
  rw [List.take_succ_eq_append_getElem h', List.all_append]
  simp; rfl
theorem all_false (p : UInt8 → Bool) (s : ByteArray) (k : Nat) (h : k < s.size) (hp : p s[k] = false) : s.data.toList.all p = false := by
  have h' : k < s.data.toList.length := by simpa using h
  cases hc : s.data.toList.all p with
  | false => rfl
  | true =>
    have := List.all_eq_true.1 hc s.data.toList[k] (List.getElem_mem h')
    rw [show s.data.toList[k] = s[k] from rfl, hp] at this; cases this
set_option maxHeartbeats 2000000 in
theorem letters_any (s also : ByteArray) (w : World) (hs : s.size ≤ maxLen) :
    Calls Tryz.prog 145 #[.string s, .string also] w fun e w' => e = .returned (.bool (lettersB also.data.toList s.data.toList)) ∧ w = w' := by
  unfold maxLen at hs
  go_enter Tryz.func145, Tryz.ntmps145
  go_wp2
  go_loop [8] (fun i => ∃ k : Nat, k ≤ s.size ∧ i = .int .i64 k ∧ Hid ((s.data.toList.take k).all (letB also.data.toList) = true)) (fun i => s.size - (RowKit.intOf i).toNat)
  case atStart => exact ⟨0, Nat.zero_le _, rfl, rfl⟩
  case round =>
    obtain ⟨k, hk, rfl, H⟩ := hrel
    by_cases hlt : k < s.size
    · have HA := hid (all_snoc (letB also.data.toList) s k hlt)
      have HF := hid (all_false (letB also.data.toList) s k hlt)
      by_cases h1 : (65 : Int) ≤ (s[k].toNat : Int)
      · have d1 : decide ((s[k].toNat : Int) < 65) = false := decide_eq_false (by omega)
        by_cases h2 : (s[k].toNat : Int) ≤ 90
        · have d2 : decide ((s[k].toNat : Int) > 90) = false := decide_eq_false (by omega)
          have HU := hid (show letB also.data.toList s[k] = true by unfold letB upB; simp only [decide_eq_true h1, decide_eq_true h2]; rfl)
          go_wp2
          go_round
          case rel => exact ⟨k + 1, by omega, by go_num, hid (by rw [HA.out, H.out, HU.out]; rfl)⟩
          case measure => simp [RowKit.intOf]; omega
        · have d2 : decide ((s[k].toNat : Int) > 90) = true := decide_eq_true (by omega)
          have hu : upB s[k] = false := by unfold upB; rw [decide_eq_false h2, Bool.and_false]
          cases hc : also.data.toList.contains s[k] with
          | true =>
            have HU := hid (show letB also.data.toList s[k] = true by unfold letB; rw [hc, Bool.or_true])
            have d3 : decide (Lib.indexByte also.data.toList s[k] < 0) = false := by rw [indexByte_neg, hc]; rfl
            clear hc hu
            go_wp2_with fail
            refine (idxB_any also _ s[k] (by simp) _).mono ?_
            rintro e w' ⟨rfl, rfl⟩
            go_wp2
            go_round
            case rel => exact ⟨k + 1, by omega, by go_num, hid (by rw [HA.out, H.out, HU.out]; rfl)⟩
            case measure => simp [RowKit.intOf]; omega
          | false =>
            have HU := hid (HF.out (by unfold letB; rw [hc, hu]; rfl))
            have d3 : decide (Lib.indexByte also.data.toList s[k] < 0) = true := by rw [indexByte_neg, hc]; rfl
            clear hc hu
            go_wp2_with fail
            refine (idxB_any also _ s[k] (by simp) _).mono ?_
            rintro e w' ⟨rfl, rfl⟩
            go_wp2
            go_ret
            exact ⟨ret_bool (by unfold lettersB; rw [HU.out]), rfl⟩
      · have d1 : decide ((s[k].toNat : Int) < 65) = true := decide_eq_true (by omega)
        have hu : upB s[k] = false := by unfold upB; rw [decide_eq_false h1, Bool.false_and]
        cases hc : also.data.toList.contains s[k] with
        | true =>
          have HU := hid (show letB also.data.toList s[k] = true by unfold letB; rw [hc, Bool.or_true])
          have d3 : decide (Lib.indexByte also.data.toList s[k] < 0) = false := by rw [indexByte_neg, hc]; rfl
          clear hc hu
          go_wp2_with fail
          refine (idxB_any also _ s[k] (by simp) _).mono ?_
          rintro e w' ⟨rfl, rfl⟩
          go_wp2
          go_round
          case rel => exact ⟨k + 1, by omega, by go_num, hid (by rw [HA.out, H.out, HU.out]; rfl)⟩
          case measure => simp [RowKit.intOf]; omega
        | false =>
          have HU := hid (HF.out (by unfold letB; rw [hc, hu]; rfl))
          have d3 : decide (Lib.indexByte also.data.toList s[k] < 0) = true := by rw [indexByte_neg, hc]; rfl
          clear hc hu
          go_wp2_with fail
          refine (idxB_any also _ s[k] (by simp) _).mono ?_
          rintro e w' ⟨rfl, rfl⟩
          go_wp2
          go_ret
          exact ⟨ret_bool (by unfold lettersB; rw [HU.out]), rfl⟩
    · obtain rfl : k = s.size := by omega
      have HU := hid (show s.data.toList.all (letB also.data.toList) = true by
        have := H.out
        rw [List.take_of_length_le (by simp)] at this; exact this)
      clear H
      go_wp2
      go_ret
      exact ⟨ret_bool (by unfold lettersB; rw [HU.out]), rfl⟩
def amtB (x : Int) : Bool := decide (0 ≤ x) && decide (x ≤ 1125899906842624)
theorem amt_cases (x : Int) : (x < 0 ∧ amtB x = false) ∨ (0 ≤ x ∧ mayI x = true ∧ amtB x = true) ∨ (0 ≤ x ∧ mayI x = false ∧ amtB x = false) := by
  unfold amtB mayI
  by_cases h0 : 0 ≤ x
  · by_cases h1 : x ≤ 1125899906842624
    · right; left; simp [h0, h1]; omega
    · right; right; simp [h0, h1]
  · left; simp; omega
set_option maxHeartbeats 2000000 in
theorem amounts_any (a : Option Addr) (n cap : Nat) (xs : List Int) (w : World) (hn : xs.length = n) (hr : Row w a (xs.map (.int .i64))) (hm : n ≤ 9223372036854775807) :
    Calls Tryz.prog 148 #[.slice a n cap] w fun e w' => e = .returned (.bool (xs.all amtB)) ∧ Below w.heap.size w w' := by
  subst hn
  have Hr := hid hr
  clear hr
  go_enter Tryz.func148, Tryz.ntmps148
  go_wp2
  go_loopw [7] (fun i wr => ∃ k : Nat, k ≤ xs.length ∧ i = .int .i64 k ∧ Hid ((xs.take k).all amtB = true) ∧ Aside (Below w.heap.size w wr)) (fun i _ => xs.length - (RowKit.intOf i).toNat)
  case atStart => exact ⟨0, Nat.zero_le _, rfl, rfl, Below.refl _ _⟩
  case round =>
    obtain ⟨k, hk, rfl, H, hb⟩ := hrel
    by_cases hlt : k < xs.length
    · obtain ⟨b, off, rfl, hc⟩ := (Hr.out.kept hb.out).int k hlt
      have hs := all_take_succ (p := amtB) hlt
      have hf : amtB (xs.getD k 0) = false → xs.all amtB = false := fun h => by
        cases hc : xs.all amtB with
        | false => rfl
        | true =>
          have := List.all_eq_true.1 hc xs[k] (List.getElem_mem hlt)
          rw [show xs.getD k 0 = xs[k] by simp [List.getD_eq_getElem?_getD, hlt], this] at h; cases h
      generalize xs.getD k 0 = x at *
      have HS := hid hs
      have HF := hid hf
      clear hs hf
      rcases amt_cases x with ⟨h1, h2⟩ | ⟨h1, h2, h3⟩ | ⟨h1, h2, h3⟩
      · have d1 : decide (x < 0) = true := decide_eq_true h1
        have HU := hid (HF.out h2)
        clear h2
        go_wp2
        go_ret
        exact ⟨ret_bool (by rw [HU.out]), hb.out⟩
      · have d1 : decide (x < 0) = false := decide_eq_false (by omega)
        have d2 : (errI x != 0) = false := by simp [errI, h2]
        have H3 := hid h3
        clear h2 h3
        go_wp2_with fail
        refine (check_any _ _).mono ?_
        rintro e w2 ⟨rfl, hb2⟩
        go_wp2
        go_roundw
        case rel => exact ⟨k + 1, by omega, by go_num, hid (by rw [HS.out, H.out, H3.out]; rfl), bt hb.out hb2⟩
        case measure => simp [RowKit.intOf]; omega
      · have d1 : decide (x < 0) = false := decide_eq_false (by omega)
        have d2 : (errI x != 0) = true := by simp [errI, h2]
        have HU := hid (HF.out h3)
        clear h2 h3
        go_wp2_with fail
        refine (check_any _ _).mono ?_
        rintro e w2 ⟨rfl, hb2⟩
        go_wp2
        go_ret
        exact ⟨ret_bool (by rw [HU.out]), bt hb.out hb2⟩
    · obtain rfl : k = xs.length := by omega
      have HU := hid (show xs.all amtB = true by have := H.out; rw [List.take_length] at this; exact this)
      clear H
      go_wp2
      go_ret
      exact ⟨ret_bool (by rw [HU.out]), hb.out⟩
end Go.Proofs.YtnkghdakjdhhdaaGreat
end
section
namespace Go.Proofs.YtnkghdakjdhhdaaGreat
open Go.RowKit Go.Lib Go.Tk
structure Leg where
  c : Int
  f : Int
  x : Int
deriving DecidableEq, Inhabited
structure Tax where
  code : ByteArray
  amt : Int
deriving DecidableEq, Inhabited
def encLeg (l : Leg) : List Value := [.int .u8 l.c, .int .u16 l.f, .int .u32 l.x]
def encTax (t : Tax) : List Value := [.string t.code, .int .i64 t.amt]
theorem encLeg_len (l : Leg) : (encLeg l).length = 3 := rfl
theorem encTax_len (t : Tax) : (encTax t).length = 2 := rfl
theorem encLeg_one (l : Leg) : ∀ v ∈ encLeg l, v.oneCell' = true := by simp [encLeg, Value.oneCell']
theorem encTax_one (t : Tax) : ∀ v ∈ encTax t, v.oneCell' = true := by simp [encTax, Value.oneCell']
theorem leg_at {w : World} {a : Option Addr} {l : List Leg} (h : Row w a (cellsL encLeg l)) {k : Nat} (hk : k < l.length) :
    ∃ b off, a = some ⟨b, off, none⟩ ∧ w.cell? ⟨b, off + k * 3, none⟩ = some (.int .u8 l[k].c) ∧ w.cell? ⟨b, off + k * 3 + 1, none⟩ = some (.int .u16 l[k].f) ∧ w.cell? ⟨b, off + k * 3 + 2, none⟩ = some (.int .u32 l[k].x) := by
  obtain ⟨b, off, hab, hc⟩ := h.thing encLeg_len hk (by decide)
  exact ⟨b, off, hab, hc 0 (by decide), hc 1 (by decide), hc 2 (by decide)⟩
theorem tax_at {w : World} {a : Option Addr} {l : List Tax} (h : Row w a (cellsL encTax l)) {k : Nat} (hk : k < l.length) :
    ∃ b off, a = some ⟨b, off, none⟩ ∧ w.cell? ⟨b, off + k * 2, none⟩ = some (.string l[k].code) ∧ w.cell? ⟨b, off + k * 2 + 1, none⟩ = some (.int .i64 l[k].amt) := by
  obtain ⟨b, off, hab, hc⟩ := h.thing encTax_len hk (by decide)
  exact ⟨b, off, hab, hc 0 (by decide), hc 1 (by decide)⟩
theorem any_take_succ {α : Type} {p : α → Bool} {l : List α} {k : Nat} (h : k < l.length) : (l.take (k + 1)).any p = ((l.take k).any p || p l[k]) := by
  rw [List.take_succ_eq_append_getElem h, List.any_append]; simp
theorem any_at {α : Type} {p : α → Bool} {l : List α} {k : Nat} (h : k < l.length) (hp : p l[k] = true) : l.any p = true := List.any_eq_true.2 ⟨_, List.getElem_mem h, hp⟩
def IdxIs (b : Bool) (w : World) (e : Ending) (w' : World) : Prop := ∃ r : Int, e = .returned (.int .i64 r) ∧ decide (r ≥ 0) = b ∧ Below w.heap.size w w'
def legBad (n : Int) (l : Leg) : Bool := decide (l.c ≥ n) || (l.x == 0)
set_option maxHeartbeats 400000 in
theorem legBad_any (n : Int) (l : Leg) (nb : Nat) (w : World) (hc : w.cell? ⟨nb, 0, none⟩ = some (.int .i64 n)) (h0 : 0 ≤ l.c) (h1 : l.c ≤ 255) :
    Calls Tryz.prog 151 #[.agg #[.int .u8 l.c, .int .u16 l.f, .int .u32 l.x], .pointer (some ⟨nb, 0, none⟩)] w fun e w' => e = .returned (.bool (legBad n l)) ∧ Below w.heap.size w w' := by
  obtain ⟨c, f, x⟩ := l
  dsimp only at h0 h1 ⊢
  have hlt : nb < w.heap.size := lt_of_cell hc
  by_cases hcn : c ≥ n
  · have F := hid (show legBad n ⟨c, f, x⟩ = true by simp [legBad, hcn])
    have d1 : decide (c ≥ n) = true := decide_eq_true hcn
    go_enter Tryz.func151, Tryz.ntmps151
    go_wp2
    go_ret
    exact ⟨ret_bool F.out.symm, (Below.refl _ _).alloc (Nat.le_refl _) _⟩
  · have F := hid (show legBad n ⟨c, f, x⟩ = (x == 0) by simp [legBad, hcn])
    have d1 : decide (c ≥ n) = false := decide_eq_false hcn
    go_enter Tryz.func151, Tryz.ntmps151
    go_wp2
    go_ret
    exact ⟨ret_bool F.out.symm, (Below.refl _ _).alloc (Nat.le_refl _) _⟩
def taxBad (t : Tax) : Bool := decide (t.code.size ≠ 2) || !lettersB [] t.code.data.toList || !amtB t.amt
set_option maxHeartbeats 1000000 in
theorem taxBad_any (t : Tax) (w : World) (hs : t.code.size ≤ maxLen) :
    Calls Tryz.prog 154 #[.agg #[.string t.code, .int .i64 t.amt]] w fun e w' => e = .returned (.bool (taxBad t)) ∧ Below w.heap.size w w' := by
  obtain ⟨code, amt⟩ := t
  dsimp only at hs ⊢
  have hs' := hs
  unfold maxLen at hs'
  by_cases h2 : code.size = 2
  · have d1 : ((code.size : Int) != 2) = false := by simp; omega
    have H2 := hid h2
    clear h2
    cases hl : lettersB [] code.data.toList with
    | false =>
      have F := hid (show taxBad ⟨code, amt⟩ = true by simp [taxBad, hl])
      go_enter Tryz.func154, Tryz.ntmps154
      go_wp2_with fail
      refine (letters_any code _ _ hs).mono ?_
      rintro e w' ⟨rfl, rfl⟩
      rw [show ByteArray.data { data := #[] } = #[] from rfl, hl]
      go_wp2
      go_ret
      exact ⟨ret_bool F.out.symm, (Below.refl _ _).alloc (Nat.le_refl _) _⟩
    | true =>
      have F := hid (show taxBad ⟨code, amt⟩ = !([amt].all amtB) by simp [taxBad, hl, H2.out])
      go_enter Tryz.func154, Tryz.ntmps154
      go_wp2_with fail
      refine (letters_any code _ _ hs).mono ?_
      rintro e w' ⟨rfl, rfl⟩
      rw [show ByteArray.data { data := #[] } = #[] from rfl, hl]
      go_wp2_with fail
      refine (amounts_any _ 1 _ [amt] _ rfl (row_new (vs := [.int .i64 amt]) (by simp)) (by omega)).mono ?_
      rintro e w2 ⟨rfl, hb⟩
      generalize [amt].all amtB = q at *
      go_wp2
      go_ret
      exact ⟨ret_bool F.out.symm, (((Below.refl _ _).alloc (Nat.le_refl _) _).alloc (by simp) _).trans (hb.mono (by simp; omega))⟩
  · have F := hid (show taxBad ⟨code, amt⟩ = true by simp [taxBad, h2])
    have d1 : ((code.size : Int) != 2) = true := by simp; omega
    clear h2
    go_enter Tryz.func154, Tryz.ntmps154
    go_wp2
    go_ret
    exact ⟨ret_bool F.out.symm, (Below.refl _ _).alloc (Nat.le_refl _) _⟩
set_option maxHeartbeats 1000000 in
theorem idxLeg_any (n : Int) (nb : Nat) (l : List Leg) (a : Option Addr) (m cap : Nat) (w : World) (hn : l.length = m) (hm : m ≤ 9223372036854775807) (hr : Row w a (cellsL encLeg l)) (hb : ∀ x ∈ l, 0 ≤ x.c ∧ x.c ≤ 255) (hc : w.cell? ⟨nb, 0, none⟩ = some (.int .i64 n)) :
    Calls Tryz.prog 171 #[.slice a m cap, .func (.func 151) #[] #[.pointer (some ⟨nb, 0, none⟩)]] w (IdxIs (l.any (legBad n)) w) := by
  subst hn
  have Hr := hid hr
  have Hb := hid hb
  have Hc := hid hc
  have hlt : nb < w.heap.size := lt_of_cell hc
  clear hr hb hc
  go_enter Tryz.func171, Tryz.ntmps171
  go_wp2
  go_loopw [8] (fun i wr => ∃ k : Nat, k ≤ l.length ∧ i = .int .i64 k ∧ Hid ((l.take k).any (legBad n) = false) ∧ Aside (Below w.heap.size w wr)) (fun i _ => l.length - (RowKit.intOf i).toNat)
  case atStart => exact ⟨0, Nat.zero_le _, rfl, rfl, Below.refl _ _⟩
  case round =>
    obtain ⟨k, hk, rfl, H, B⟩ := hrel
    by_cases hlt2 : k < l.length
    · obtain ⟨b, off, rfl, c1, c2, c3⟩ := leg_at (Hr.out.kept B.out) hlt2
      have hcn : wr.cell? ⟨nb, 0, none⟩ = some (.int .i64 n) := by rw [B.out.cell (p := ⟨nb, 0, none⟩) hlt]; exact Hc.out
      have HS := hid (any_take_succ (p := legBad n) hlt2)
      have HT := hid (any_at (p := legBad n) hlt2)
      have hx := Hb.out _ (List.getElem_mem hlt2)
      generalize l[k] = x at *
      have KEY := hid (legBad_any n x nb wr hcn hx.1 hx.2)
      cases hp : legBad n x with
      | true =>
        have HU := hid (HT.out hp)
        go_wp2_with fail
        refine KEY.out.mono ?_
        rintro e w2 ⟨rfl, hb2⟩
        rw [hp]
        clear hp
        go_wp2
        go_ret
        exact ⟨k, rfl, by rw [HU.out]; exact decide_eq_true (by omega), bt B.out hb2⟩
      | false =>
        have HU := hid hp
        go_wp2_with fail
        refine KEY.out.mono ?_
        rintro e w2 ⟨rfl, hb2⟩
        rw [hp]
        clear hp
        go_wp2
        go_roundw
        case rel => exact ⟨k + 1, by omega, by go_num, hid (by rw [HS.out, H.out, HU.out]; rfl), bt B.out hb2⟩
        case measure => simp [RowKit.intOf]; omega
    · obtain rfl : k = l.length := by omega
      have HU := hid (show l.any (legBad n) = false by have := H.out; rw [List.take_length] at this; exact this)
      clear H
      go_wp2
      go_ret
      exact ⟨-1, rfl, by rw [HU.out]; decide, B.out⟩
set_option maxHeartbeats 1000000 in
theorem idxTax_any (l : List Tax) (a : Option Addr) (m cap : Nat) (w : World) (hn : l.length = m) (hm : m ≤ 9223372036854775807) (hr : Row w a (cellsL encTax l)) (hb : ∀ x ∈ l, x.code.size ≤ maxLen) :
    Calls Tryz.prog 172 #[.slice a m cap, .func (.func 154) #[] #[]] w (IdxIs (l.any taxBad) w) := by
  subst hn
  have Hr := hid hr
  have Hb := hid hb
  clear hr hb
  go_enter Tryz.func172, Tryz.ntmps172
  go_wp2
  go_loopw [8] (fun i wr => ∃ k : Nat, k ≤ l.length ∧ i = .int .i64 k ∧ Hid ((l.take k).any taxBad = false) ∧ Aside (Below w.heap.size w wr)) (fun i _ => l.length - (RowKit.intOf i).toNat)
  case atStart => exact ⟨0, Nat.zero_le _, rfl, rfl, Below.refl _ _⟩
  case round =>
    obtain ⟨k, hk, rfl, H, B⟩ := hrel
    by_cases hlt2 : k < l.length
    · obtain ⟨b, off, rfl, c1, c2⟩ := tax_at (Hr.out.kept B.out) hlt2
      have HS := hid (any_take_succ (p := taxBad) hlt2)
      have HT := hid (any_at (p := taxBad) hlt2)
      have hx := Hb.out _ (List.getElem_mem hlt2)
      generalize l[k] = x at *
      have KEY := hid (taxBad_any x wr hx)
      clear hx
      cases hp : taxBad x with
      | true =>
        have HU := hid (HT.out hp)
        go_wp2_with fail
        refine KEY.out.mono ?_
        rintro e w2 ⟨rfl, hb2⟩
        rw [hp]
        clear hp
        go_wp2
        go_ret
        exact ⟨k, rfl, by rw [HU.out]; exact decide_eq_true (by omega), bt B.out hb2⟩
      | false =>
        have HU := hid hp
        go_wp2_with fail
        refine KEY.out.mono ?_
        rintro e w2 ⟨rfl, hb2⟩
        rw [hp]
        clear hp
        go_wp2
        go_roundw
        case rel => exact ⟨k + 1, by omega, by go_num, hid (by rw [HS.out, H.out, HU.out]; rfl), bt B.out hb2⟩
        case measure => simp [RowKit.intOf]; omega
    · obtain rfl : k = l.length := by omega
      have HU := hid (show l.any taxBad = false by have := H.out; rw [List.take_length] at this; exact this)
      clear H
      go_wp2
      go_ret
      exact ⟨-1, rfl, by rw [HU.out]; decide, B.out⟩
set_option maxHeartbeats 400000 in
theorem hasLeg_any (n : Int) (nb : Nat) (l : List Leg) (a : Option Addr) (m cap : Nat) (w : World) (hn : l.length = m) (hm : m ≤ 9223372036854775807) (hr : Row w a (cellsL encLeg l)) (hb : ∀ x ∈ l, 0 ≤ x.c ∧ x.c ≤ 255) (hc : w.cell? ⟨nb, 0, none⟩ = some (.int .i64 n)) :
    Calls Tryz.prog 150 #[.slice a m cap, .func (.func 151) #[] #[.pointer (some ⟨nb, 0, none⟩)]] w fun e w' => e = .returned (.bool (l.any (legBad n))) ∧ Below w.heap.size w w' := by
  have KEY := hid (idxLeg_any n nb l a m cap w hn hm hr hb hc)
  clear hr hb hc hn
  go_enter Tryz.func150, Tryz.ntmps150
  go_wp2_with fail
  refine KEY.out.mono ?_
  rintro e w2 ⟨r, rfl, hr, hb2⟩
  have HR := hid hr
  clear hr
  go_wp2
  go_ret
  exact ⟨ret_bool (by first | exact HR.out | (rw [← HR.out])), hb2⟩
set_option maxHeartbeats 400000 in
theorem hasTax_any (l : List Tax) (a : Option Addr) (m cap : Nat) (w : World) (hn : l.length = m) (hm : m ≤ 9223372036854775807) (hr : Row w a (cellsL encTax l)) (hb : ∀ x ∈ l, x.code.size ≤ maxLen) :
    Calls Tryz.prog 153 #[.slice a m cap, .func (.func 154) #[] #[]] w fun e w' => e = .returned (.bool (l.any taxBad)) ∧ Below w.heap.size w w' := by
  have KEY := hid (idxTax_any l a m cap w hn hm hr hb)
  clear hr hb hn
  go_enter Tryz.func153, Tryz.ntmps153
  go_wp2_with fail
  refine KEY.out.mono ?_
  rintro e w2 ⟨r, rfl, hr, hb2⟩
  have HR := hid hr
  clear hr
  go_wp2
  go_ret
  exact ⟨ret_bool (by first | exact HR.out | (rw [← HR.out])), hb2⟩
end Go.Proofs.YtnkghdakjdhhdaaGreat
end
section
namespace Go.Proofs.YtnkghdakjdhhdaaGreat
open Go.RowKit Go.Lib Go.Tk Go.Shelf Go.Vc Go.Sx
structure Tid where
  c : Int
  r : Int
deriving DecidableEq, Inhabited
structure Kid where
  t : Tid
  i : Int
deriving DecidableEq, Inhabited
structure Cpn where
  l : Leg
  v : Int
  s : Int
  n : Int
deriving DecidableEq, Inhabited
structure OwnV where
  k : Cpn
  away : Bool
  dst : Int
  paid : Bool
  asked : Bool
deriving DecidableEq, Inhabited
structure HeldV where
  k : Cpn
  here : Bool
  paid : Bool
  wanted : Bool
  billed : Bool
deriving DecidableEq, Inhabited
structure MsV where
  kind : Int
  key : Kid
  k : Cpn
  amt : Int
  code : Int
deriving DecidableEq, Inhabited
structure OutV where
  dst : Int
  m : MsV
deriving DecidableEq, Inhabited
def tid0 : Tid := ⟨0, 0⟩
def kid0 : Kid := ⟨⟨0, 0⟩, 0⟩
def leg0 : Leg := ⟨0, 0, 0⟩
def cpn0 : Cpn := ⟨⟨0, 0, 0⟩, 0, 0, 0⟩
def own0 : OwnV := ⟨⟨⟨0, 0, 0⟩, 0, 0, 0⟩, false, 0, false, false⟩
def held0 : HeldV := ⟨⟨⟨0, 0, 0⟩, 0, 0, 0⟩, false, false, false, false⟩
def tidS (t : Tid) : List SV := [.val (.int .u8 t.c), .val (.int .u64 t.r)]
def kidS (k : Kid) : List SV := [.val (.int .u8 k.t.c), .val (.int .u64 k.t.r), .val (.int .u8 k.i)]
def legS' (l : Leg) : List SV := [.val (.int .u8 l.c), .val (.int .u16 l.f), .val (.int .u32 l.x)]
def ownS (o : OwnV) : List SV := [.val (.int .u8 o.k.l.c), .val (.int .u16 o.k.l.f), .val (.int .u32 o.k.l.x), .val (.int .i64 o.k.v), .val (.int .u8 o.k.s), .val (.int .u32 o.k.n), .val (.bool o.away), .val (.int .u8 o.dst), .val (.bool o.paid), .val (.bool o.asked)]
def heldS (o : HeldV) : List SV := [.val (.int .u8 o.k.l.c), .val (.int .u16 o.k.l.f), .val (.int .u32 o.k.l.x), .val (.int .i64 o.k.v), .val (.int .u8 o.k.s), .val (.int .u32 o.k.n), .val (.bool o.here), .val (.bool o.paid), .val (.bool o.wanted), .val (.bool o.billed)]
def msS (m : MsV) : List SV := [.val (.int .u8 m.kind), .val (.int .u8 m.key.t.c), .val (.int .u64 m.key.t.r), .val (.int .u8 m.key.i), .val (.int .u8 m.k.l.c), .val (.int .u16 m.k.l.f), .val (.int .u32 m.k.l.x), .val (.int .i64 m.k.v), .val (.int .u8 m.k.s), .val (.int .u32 m.k.n), .val (.int .i64 m.amt), .val (.int .i64 m.code)]
def outS (x : OutV) : List SV := .val (.int .u8 x.dst) :: msS x.m
def valsL (l : List SV) : List Value := l.map fun v => match v with
  | .val u => u
  | _ => undef
def kidV (k : Kid) : Value := .agg #[.int .u8 k.t.c, .int .u64 k.t.r, .int .u8 k.i]
def tidV (t : Tid) : Value := .agg #[.int .u8 t.c, .int .u64 t.r]
def ownL (o : OwnV) : List Value := [.int .u8 o.k.l.c, .int .u16 o.k.l.f, .int .u32 o.k.l.x, .int .i64 o.k.v, .int .u8 o.k.s, .int .u32 o.k.n, .bool o.away, .int .u8 o.dst, .bool o.paid, .bool o.asked]
def heldL (o : HeldV) : List Value := [.int .u8 o.k.l.c, .int .u16 o.k.l.f, .int .u32 o.k.l.x, .int .i64 o.k.v, .int .u8 o.k.s, .int .u32 o.k.n, .bool o.here, .bool o.paid, .bool o.wanted, .bool o.billed]
def msL (m : MsV) : List Value := [.int .u8 m.kind, .int .u8 m.key.t.c, .int .u64 m.key.t.r, .int .u8 m.key.i, .int .u8 m.k.l.c, .int .u16 m.k.l.f, .int .u32 m.k.l.x, .int .i64 m.k.v, .int .u8 m.k.s, .int .u32 m.k.n, .int .i64 m.amt, .int .i64 m.code]
def ownW (o : OwnV) : Value := .agg (ownL o).toArray
def heldW (o : HeldV) : Value := .agg (heldL o).toArray
def TidOk (t : Tid) : Prop := (0 ≤ t.c ∧ t.c ≤ 255) ∧ 0 ≤ t.r ∧ t.r ≤ 18446744073709551615
def KidOk (k : Kid) : Prop := TidOk k.t ∧ 0 ≤ k.i ∧ k.i ≤ 255
theorem wf_u8 {x : Int} (h : 0 ≤ x ∧ x ≤ 255) : (Lit.int .u8 x).wf = true := by simp [Lit.wf, IntKind.min, IntKind.max, IntKind.signed, IntKind.bits]; omega
theorem wf_u64 {x : Int} (h : 0 ≤ x ∧ x ≤ 18446744073709551615) : (Lit.int .u64 x).wf = true := by simp [Lit.wf, IntKind.min, IntKind.max, IntKind.signed, IntKind.bits]; omega
theorem cellsTick : Tryz.prog.cellsOf 25 = 2 := by kernel_rfl
theorem cellsKey : Tryz.prog.cellsOf 27 = 3 := by kernel_rfl
theorem cellsU8 : Tryz.prog.cellsOf 5 = 1 := by kernel_rfl
theorem cellsU64 : Tryz.prog.cellsOf 23 = 1 := by kernel_rfl
theorem typesTwo : ∃ n, Tryz.prog.types.size = n + 2 := ⟨Tryz.prog.types.size - 2, by have : 2 ≤ Tryz.prog.types.size := of_decide_eq_true (by kernel_rfl); omega⟩
theorem lits_tid {t : Tid} (h : TidOk t) (n : Nat) : Tryz.prog.keyLits (n + 2) 25 [.int .u8 t.c, .int .u64 t.r] = some [.int .u8 t.c, .int .u64 t.r] := by
  rw [tkKeyStruct Tryz.underlying25 _ _ (by rw [cellsTick]; rfl) (by kernel_rfl)]
  simp [cellsU8, cellsU64, tkKeyInt Tryz.underlying5 n (wf_u8 h.1), tkKeyInt Tryz.underlying23 n (wf_u64 h.2)]
theorem keyOf_tid {t : Tid} (h : TidOk t) : ∃ l, keyOf Tryz.prog 25 (tidV t) = some l := by
  have h1 : Tryz.prog.keyType 25 = true := by kernel_rfl
  have h2 : (tidV t).formed Tryz.prog 25 = true := by simp [tidV, Value.formed, Tryz.underlying25, cellsTick]
  obtain ⟨n, hn⟩ := typesTwo
  have h3 := lits_tid h (n + 1)
  refine ⟨.string (keyBytes [.int .u8 t.c, .int .u64 t.r]), ?_⟩
  unfold keyOf
  rw [Tryz.underlying25]
  simp only [h1, h2, Bool.and_true, if_true, tidV, Value.cells, hn]
  rw [show n + 2 + 1 = n + 1 + 2 from rfl, h3]; rfl
theorem keyOf_kid {k : Kid} (h : KidOk k) : ∃ l, keyOf Tryz.prog 27 (kidV k) = some l := by
  have h1 : Tryz.prog.keyType 27 = true := by kernel_rfl
  have h2 : (kidV k).formed Tryz.prog 27 = true := by simp [kidV, Value.formed, Tryz.underlying27, cellsKey]
  obtain ⟨n, hn⟩ := typesTwo
  have h3 : Tryz.prog.keyLits (n + 3) 27 [.int .u8 k.t.c, .int .u64 k.t.r, .int .u8 k.i] = some [.int .u8 k.t.c, .int .u64 k.t.r, .int .u8 k.i] := by
    rw [tkKeyStruct Tryz.underlying27 _ _ (by rw [cellsKey]; rfl) (by kernel_rfl)]
    simp [cellsTick, cellsU8, lits_tid h.1 n, tkKeyInt Tryz.underlying5 (n + 1) (wf_u8 h.2)]
  refine ⟨.string (keyBytes [.int .u8 k.t.c, .int .u64 k.t.r, .int .u8 k.i]), ?_⟩
  unfold keyOf
  rw [Tryz.underlying27]
  simp only [h1, h2, Bool.and_true, if_true, kidV, Value.cells, hn]
  rw [show n + 2 + 1 = n + 3 from rfl, h3]; rfl
def tidK : KeyKind Tryz.prog 25 Tid where
  kv := tidV
  ok := TidOk
  inj := fun {x y} h => by
    obtain ⟨a, b⟩ := x; obtain ⟨c, d⟩ := y
    simp only [tidV, Value.agg.injEq, Array.mk.injEq, List.cons.injEq, Value.int.injEq, true_and, and_true] at h
    rw [h.1, h.2]
  keyed := keyB_ok (by kernel_rfl)
  reads := keyOf_tid
def kidK : KeyKind Tryz.prog 27 Kid where
  kv := kidV
  ok := KidOk
  inj := fun {x y} h => by
    obtain ⟨⟨a, b⟩, e⟩ := x; obtain ⟨⟨c, d⟩, f⟩ := y
    simp only [kidV, Value.agg.injEq, Array.mk.injEq, List.cons.injEq, Value.int.injEq, true_and, and_true] at h
    rw [h.1, h.2.1, h.2.2]
  keyed := keyB_ok (by kernel_rfl)
  reads := keyOf_kid
abbrev OwnsV := List (Kid × OwnV)
abbrev HeldsV := List (Kid × HeldV)
def ownsF (L : OwnsV) : SC := .fam (mapT kidK ownW L)
def heldsF (L : HeldsV) : SC := .fam (mapT kidK heldW L)
def OT : TypeId := 118
def HT : TypeId := 119
theorem zero_own (w : World) : (zeroValue 43).run Tryz.prog w = .ok (ownW own0) w := still_run (by kernel_rfl) w
theorem zero_held (w : World) : (zeroValue 69).run Tryz.prog w = .ok (heldW held0) w := still_run (by kernel_rfl) w
theorem look_owns (L : OwnsV) {k : Kid} (hk : KidOk k) : OpG Tryz.prog (isLk OT true) lkXY [.map 0 0, .agg (kidS k)] [((0, 0), ownsF L)] [] (.tup [.agg (ownS ((lkt L k).getD own0)), .val (.bool (lkt L k).isSome)]) [] :=
  look_map (K := kidK) (encS := fun o => .agg (ownS o)) own0 L k Tryz.underlying118 zero_own (fun _ _ => rfl) (fun _ => rfl) hk (fun _ => rfl)
theorem look_helds (L : HeldsV) {k : Kid} (hk : KidOk k) : OpG Tryz.prog (isLk HT true) lkXY [.map 0 0, .agg (kidS k)] [((0, 0), heldsF L)] [] (.tup [.agg (heldS ((lkt L k).getD held0)), .val (.bool (lkt L k).isSome)]) [] :=
  look_map (K := kidK) (encS := fun o => .agg (heldS o)) held0 L k Tryz.underlying119 zero_held (fun _ _ => rfl) (fun _ => rfl) hk (fun _ => rfl)
theorem upd_owns (L : OwnsV) {k : Kid} (hk : KidOk k) (o : OwnV) {L' : OwnsV} (hp : (putt L k o).Perm L') : OpG Tryz.prog (isUp OT) upXYZ [.map 0 0, .agg (kidS k), .agg (ownS o)] [] [((0, 0), ownsF L)] (.val undef) [((0, 0), ownsF L')] :=
  upd_map (K := kidK) L L' k o Tryz.underlying118 hp hk (fun _ => rfl) (fun _ => rfl)
theorem upd_helds (L : HeldsV) {k : Kid} (hk : KidOk k) (o : HeldV) {L' : HeldsV} (hp : (putt L k o).Perm L') : OpG Tryz.prog (isUp HT) upXYZ [.map 0 0, .agg (kidS k), .agg (heldS o)] [] [((0, 0), heldsF L)] (.val undef) [((0, 0), heldsF L')] :=
  upd_map (K := kidK) L L' k o Tryz.underlying119 hp hk (fun _ => rfl) (fun _ => rfl)
theorem len_helds (L : HeldsV) : OpG Tryz.prog (isLenM Tryz.prog) lenX [.map 0 0] [((0, 0), heldsF L)] [] (.val (.int .i64 (L.length : Int))) [] := len_map L
end Go.Proofs.YtnkghdakjdhhdaaGreat
end
