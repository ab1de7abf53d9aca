/- TICKET 1: letters, amounts. -/
import Derived.Test.YtijldpkchmpjkaaRows
import Derived.Test.YtijldpkchmpjkaaMoney7
import Derived.Lib.Bytealg
import Derived.Deep.LoopGhost
namespace Go.Proofs.Ytijldpkchmpjkaa
open Go.RowKit Go.Lib Go.Tk

theorem indexByte_ge : ∀ (l : List UInt8) (c : UInt8), -1 ≤ Lib.indexByte l c
  | [], _ => by simp [Lib.indexByte]
  | b :: l, c => by
    have := indexByte_ge l c
    unfold Lib.indexByte
    split
    · omega
    · split <;> omega
theorem indexByte_neg : ∀ (l : List UInt8) (c : UInt8), decide (Lib.indexByte l c < 0) = !l.contains c
  | [], c => by simp [Lib.indexByte]
  | b :: l, c => by
    have h1 := indexByte_neg l c
    have h2 := indexByte_ge l c
    unfold Lib.indexByte
    by_cases hb : b = c
    · subst hb; simp
    · have hb' : (b == c) = false := by simpa using hb
      rw [hb', if_neg (by decide)]
      have hc : (b :: l).contains c = l.contains c := by
        rw [List.contains_cons]
        have : (c == b) = false := by simpa using Ne.symm hb
        rw [this, Bool.false_or]
      rw [hc, ← h1]
      split
      · rename_i h; have h : Lib.indexByte l c = -1 := by simpa using h
        simp [h]
      · rename_i h; have h : Lib.indexByte l c ≠ -1 := by simpa using h
        rw [decide_eq_decide]; omega

set_option maxHeartbeats 400000 in
theorem idxSL_any (s : ByteArray) (c : Int) (w : World) : Calls Try.prog 70 #[.string s, .int .u8 c] w fun e w' => e = .returned (.int .i64 (Lib.indexByte s.data.toList c.toNat.toUInt8)) ∧ w = w' := by
  go_enter Try.func70, Try.ntmps70
  go_wp2
  rw [run_callFunc_extern Try.func72 (by kernel_rfl) (by kernel_rfl) (by kernel_rfl) (e := Extern.BytealgIndexByte.indexByte) (by kernel_rfl), Lib.run_indexByteString]
  simp only [Result.andThen]
  rw [Oper.upon_value]
  go_wp2
  go_ret
  exact ⟨rfl, rfl⟩

set_option maxHeartbeats 400000 in
theorem idxB_any (s : ByteArray) (c : Int) (x : UInt8) (hx : c.toNat.toUInt8 = x) (w : World) : Calls Try.prog 64 #[.string s, .int .u8 c] w fun e w' => e = .returned (.int .i64 (Lib.indexByte s.data.toList x)) ∧ w = w' := by
  have HX := hid hx
  clear hx
  go_enter Try.func64, Try.ntmps64
  go_wp2_with fail
  refine (idxSL_any s c w).mono ?_
  rintro e w' ⟨rfl, rfl⟩
  rw [HX.out]
  go_wp2
  go_ret
  exact ⟨rfl, rfl⟩

def upB (c : UInt8) : Bool := decide (65 ≤ (c.toNat : Int)) && decide ((c.toNat : Int) ≤ 90)
def letB (also : List UInt8) (c : UInt8) : Bool := upB c || also.contains c
def lettersB (also l : List UInt8) : Bool := l.all (letB also)

theorem all_snoc (p : UInt8 → Bool) (s : ByteArray) (k : Nat) (h : k < s.size) : (s.data.toList.take (k + 1)).all p = ((s.data.toList.take k).all p && p s[k]) := by
  have h' : k < s.data.toList.length := by simpa using h
  rw [List.take_succ_eq_append_getElem h', List.all_append]
  simp; rfl
theorem all_false (p : UInt8 → Bool) (s : ByteArray) (k : Nat) (h : k < s.size) (hp : p s[k] = false) : s.data.toList.all p = false := by
  have h' : k < s.data.toList.length := by simpa using h
  cases hc : s.data.toList.all p with
  | false => rfl
  | true =>
    have := List.all_eq_true.1 hc s.data.toList[k] (List.getElem_mem h')
    rw [show s.data.toList[k] = s[k] from rfl, hp] at this; cases this

set_option maxHeartbeats 2000000 in
theorem letters_any (s also : ByteArray) (w : World) (hs : s.size ≤ maxLen) :
    Calls Try.prog 45 #[.string s, .string also] w fun e w' => e = .returned (.bool (lettersB also.data.toList s.data.toList)) ∧ w = w' := by
  unfold maxLen at hs
  go_enter Try.func45, Try.ntmps45
  go_wp2
  go_loop [8] (fun i => ∃ k : Nat, k ≤ s.size ∧ i = .int .i64 k ∧ Hid ((s.data.toList.take k).all (letB also.data.toList) = true)) (fun i => s.size - (intOf i).toNat)
  case atStart => exact ⟨0, Nat.zero_le _, rfl, rfl⟩
  case round =>
    obtain ⟨k, hk, rfl, H⟩ := hrel
    by_cases hlt : k < s.size
    · have HA := hid (all_snoc (letB also.data.toList) s k hlt)
      have HF := hid (all_false (letB also.data.toList) s k hlt)
      by_cases h1 : (65 : Int) ≤ (s[k].toNat : Int)
      · have d1 : decide ((s[k].toNat : Int) < 65) = false := decide_eq_false (by omega)
        by_cases h2 : (s[k].toNat : Int) ≤ 90
        · have d2 : decide ((s[k].toNat : Int) > 90) = false := decide_eq_false (by omega)
          have HU := hid (show letB also.data.toList s[k] = true by unfold letB upB; simp only [decide_eq_true h1, decide_eq_true h2]; rfl)
          go_wp2
          go_round
          case rel => exact ⟨k + 1, by omega, by go_num, hid (by rw [HA.out, H.out, HU.out]; rfl)⟩
          case measure => simp [intOf]; omega
        · have d2 : decide ((s[k].toNat : Int) > 90) = true := decide_eq_true (by omega)
          have hu : upB s[k] = false := by unfold upB; rw [decide_eq_false h2, Bool.and_false]
          cases hc : also.data.toList.contains s[k] with
          | true =>
            have HU := hid (show letB also.data.toList s[k] = true by unfold letB; rw [hc, Bool.or_true])
            have d3 : decide (Lib.indexByte also.data.toList s[k] < 0) = false := by rw [indexByte_neg, hc]; rfl
            clear hc hu
            go_wp2_with fail
            refine (idxB_any also _ s[k] (by simp) _).mono ?_
            rintro e w' ⟨rfl, rfl⟩
            go_wp2
            go_round
            case rel => exact ⟨k + 1, by omega, by go_num, hid (by rw [HA.out, H.out, HU.out]; rfl)⟩
            case measure => simp [intOf]; omega
          | false =>
            have HU := hid (HF.out (by unfold letB; rw [hc, hu]; rfl))
            have d3 : decide (Lib.indexByte also.data.toList s[k] < 0) = true := by rw [indexByte_neg, hc]; rfl
            clear hc hu
            go_wp2_with fail
            refine (idxB_any also _ s[k] (by simp) _).mono ?_
            rintro e w' ⟨rfl, rfl⟩
            go_wp2
            go_ret
            exact ⟨ret_bool (by unfold lettersB; rw [HU.out]), rfl⟩
      · have d1 : decide ((s[k].toNat : Int) < 65) = true := decide_eq_true (by omega)
        have hu : upB s[k] = false := by unfold upB; rw [decide_eq_false h1, Bool.false_and]
        cases hc : also.data.toList.contains s[k] with
        | true =>
          have HU := hid (show letB also.data.toList s[k] = true by unfold letB; rw [hc, Bool.or_true])
          have d3 : decide (Lib.indexByte also.data.toList s[k] < 0) = false := by rw [indexByte_neg, hc]; rfl
          clear hc hu
          go_wp2_with fail
          refine (idxB_any also _ s[k] (by simp) _).mono ?_
          rintro e w' ⟨rfl, rfl⟩
          go_wp2
          go_round
          case rel => exact ⟨k + 1, by omega, by go_num, hid (by rw [HA.out, H.out, HU.out]; rfl)⟩
          case measure => simp [intOf]; omega
        | false =>
          have HU := hid (HF.out (by unfold letB; rw [hc, hu]; rfl))
          have d3 : decide (Lib.indexByte also.data.toList s[k] < 0) = true := by rw [indexByte_neg, hc]; rfl
          clear hc hu
          go_wp2_with fail
          refine (idxB_any also _ s[k] (by simp) _).mono ?_
          rintro e w' ⟨rfl, rfl⟩
          go_wp2
          go_ret
          exact ⟨ret_bool (by unfold lettersB; rw [HU.out]), rfl⟩
    · obtain rfl : k = s.size := by omega
      have HU := hid (show s.data.toList.all (letB also.data.toList) = true by
        have := H.out
        rw [List.take_of_length_le (by simp)] at this; exact this)
      clear H
      go_wp2
      go_ret
      exact ⟨ret_bool (by unfold lettersB; rw [HU.out]), rfl⟩

/-- an amount that may be, and is not below 0 -/
def amtB (x : Int) : Bool := decide (0 ≤ x) && decide (x ≤ 1125899906842624)
theorem amt_cases (x : Int) : (x < 0 ∧ amtB x = false) ∨ (0 ≤ x ∧ mayI x = true ∧ amtB x = true) ∨ (0 ≤ x ∧ mayI x = false ∧ amtB x = false) := by
  unfold amtB mayI
  by_cases h0 : 0 ≤ x
  · by_cases h1 : x ≤ 1125899906842624
    · right; left; simp [h0, h1]; omega
    · right; right; simp [h0, h1]
  · left; simp; omega

set_option maxHeartbeats 2000000 in
theorem amounts_any (a : Option Addr) (n cap : Nat) (xs : List Int) (w : World) (hn : xs.length = n) (hr : Row w a (xs.map (.int .i64))) (hm : n ≤ 9223372036854775807) :
    Calls Try.prog 48 #[.slice a n cap] w fun e w' => e = .returned (.bool (xs.all amtB)) ∧ Below w.heap.size w w' := by
  subst hn
  have Hr := hid hr
  clear hr
  go_enter Try.func48, Try.ntmps48
  go_wp2
  go_loopw [7] (fun i wr => ∃ k : Nat, k ≤ xs.length ∧ i = .int .i64 k ∧ Hid ((xs.take k).all amtB = true) ∧ Aside (Below w.heap.size w wr)) (fun i _ => xs.length - (intOf i).toNat)
  case atStart => exact ⟨0, Nat.zero_le _, rfl, rfl, Below.refl _ _⟩
  case round =>
    obtain ⟨k, hk, rfl, H, hb⟩ := hrel
    by_cases hlt : k < xs.length
    · obtain ⟨b, off, rfl, hc⟩ := (Hr.out.kept hb.out).int k hlt
      have hs := all_take_succ (p := amtB) hlt
      have hf : amtB (xs.getD k 0) = false → xs.all amtB = false := fun h => by
        cases hc : xs.all amtB with
        | false => rfl
        | true =>
          have := List.all_eq_true.1 hc xs[k] (List.getElem_mem hlt)
          rw [show xs.getD k 0 = xs[k] by simp [List.getD_eq_getElem?_getD, hlt], this] at h; cases h
      generalize xs.getD k 0 = x at *
      have HS := hid hs
      have HF := hid hf
      clear hs hf
      rcases amt_cases x with ⟨h1, h2⟩ | ⟨h1, h2, h3⟩ | ⟨h1, h2, h3⟩
      · have d1 : decide (x < 0) = true := decide_eq_true h1
        have HU := hid (HF.out h2)
        clear h2
        go_wp2
        go_ret
        exact ⟨ret_bool (by rw [HU.out]), hb.out⟩
      · have d1 : decide (x < 0) = false := decide_eq_false (by omega)
        have d2 : (errI x != 0) = false := by simp [errI, h2]
        have H3 := hid h3
        clear h2 h3
        go_wp2_with fail
        refine (check_any _ _).mono ?_
        rintro e w2 ⟨rfl, hb2⟩
        go_wp2
        go_roundw
        case rel => exact ⟨k + 1, by omega, by go_num, hid (by rw [HS.out, H.out, H3.out]; rfl), bt hb.out hb2⟩
        case measure => simp [intOf]; omega
      · have d1 : decide (x < 0) = false := decide_eq_false (by omega)
        have d2 : (errI x != 0) = true := by simp [errI, h2]
        have HU := hid (HF.out h3)
        clear h2 h3
        go_wp2_with fail
        refine (check_any _ _).mono ?_
        rintro e w2 ⟨rfl, hb2⟩
        go_wp2
        go_ret
        exact ⟨ret_bool (by rw [HU.out]), bt hb.out hb2⟩
    · obtain rfl : k = xs.length := by omega
      have HU := hid (show xs.all amtB = true by have := H.out; rw [List.take_length] at this; exact this)
      clear H
      go_wp2
      go_ret
      exact ⟨ret_bool (by rw [HU.out]), hb.out⟩
end Go.Proofs.Ytijldpkchmpjkaa
