/- Money6, Money7, Tick1, Tick2. -/
import Derived.Test.YtdnaegleifhmgaaGreatRows
import Derived.Test.YtdnaegleifhmgaaGreatM84365cf
import Derived.Lib.Bytealg
import Derived.Deep.LoopGhost
import Derived.Test.YtdnaegleifhmgaaGreatM0eb6659
import Derived.BigRegion
set_option maxRecDepth 100000
set_option linter.unusedVariables false
set_option linter.unusedSimpArgs false
set_option linter.unusedSectionVars false
section
namespace Go.Proofs.YtdnaegleifhmgaaGreat
open Go.RowKit Go.Lib Go.Tk
end Go.Proofs.YtdnaegleifhmgaaGreat
end
section
namespace Go.Proofs.YtdnaegleifhmgaaGreat
open Go.RowKit Go.Lib Go.Tk
theorem part_any (a n f : Int) (w : World) :
    Calls Tryz.prog 155 #[.int .i64 a, .int .i64 n, .int .i64 f] w fun e w' => e = .returned (.tuple #[.int .i64 (partW a n f), .int .i64 (partR a n f), .int .i64 (partE a n f)]) ∧ Below w.heap.size w w' := by
  by_cases h : PartOk a n f
  · exact part_good a n f w h
  · exact part_bad a n f w h
end Go.Proofs.YtdnaegleifhmgaaGreat
end
section
namespace Go.Proofs.YtdnaegleifhmgaaGreat
open Go.RowKit Go.Lib Go.Tk
theorem indexByte_ge : ∀ (l : List UInt8) (c : UInt8), -1 ≤ Lib.indexByte l c
  | [], _ => by simp [Lib.indexByte]
  | b :: l, c => by
    have := indexByte_ge l c
    unfold Lib.indexByte
    split
    · omega
    · split <;> omega
theorem indexByte_neg : ∀ (l : List UInt8) (c : UInt8), decide (Lib.indexByte l c < 0) = !l.contains c
  | [], c => by simp [Lib.indexByte]
  | b :: l, c => by
    have h1 := indexByte_neg l c
    have h2 := indexByte_ge l c
    unfold Lib.indexByte
    by_cases hb : b = c
    · subst hb; simp
    · have hb' : (b == c) = false := by simpa using hb
      rw [hb', if_neg (by decide)]
      have hc : (b :: l).contains c = l.contains c := by
        rw [List.contains_cons]
        have : (c == b) = false := by simpa using Ne.symm hb
        rw [this, Bool.false_or]
      rw [hc, ← h1]
      split
      · rename_i h; have h : Lib.indexByte l c = -1 := by simpa using h
        simp [h]
      · rename_i h; have h : Lib.indexByte l c ≠ -1 := by simpa using h
        rw [decide_eq_decide]; omega
set_option maxHeartbeats 400000 in
theorem idxSL_any (s : ByteArray) (c : Int) (w : World) : Calls Tryz.prog 165 #[.string s, .int .u8 c] w fun e w' => e = .returned (.int .i64 (Lib.indexByte s.data.toList c.toNat.toUInt8)) ∧ w = w' := by
  go_enter Tryz.func165, Tryz.ntmps165
  go_wp2
  rw [run_callFunc_extern Tryz.func168 (by kernel_rfl) (by kernel_rfl) (by kernel_rfl) (e := Extern.BytealgIndexByte.indexByte) (by kernel_rfl), Lib.run_indexByteString]
  simp only [Result.andThen]
  rw [Oper.upon_value]
  go_wp2
  go_ret
  exact ⟨rfl, rfl⟩
set_option maxHeartbeats 400000 in
theorem idxB_any (s : ByteArray) (c : Int) (x : UInt8) (hx : c.toNat.toUInt8 = x) (w : World) : Calls Tryz.prog 159 #[.string s, .int .u8 c] w fun e w' => e = .returned (.int .i64 (Lib.indexByte s.data.toList x)) ∧ w = w' := by
  have HX := hid hx
  clear hx
  go_enter Tryz.func159, Tryz.ntmps159
  go_wp2_with fail
  refine (idxSL_any s c w).mono ?_
  rintro e w' ⟨rfl, rfl⟩
  rw [HX.out]
  go_wp2
  go_ret
  exact ⟨rfl, rfl⟩
def upB (c : UInt8) : Bool := decide (65 ≤ (c.toNat : Int)) && decide ((c.toNat : Int) ≤ 90)
def letB (also : List UInt8) (c : UInt8) : Bool := upB c || also.contains c
def lettersB (also l : List UInt8) : Bool := l.all (letB also)
theorem all_snoc (p : UInt8 → Bool) (s : ByteArray) (k : Nat) (h : k < s.size) : (s.data.toList.take (k + 1)).all p = ((s.data.toList.take k).all p && p s[k]) := by
  have h' : k < s.data.toList.length := by simpa using h
  rw [List.take_succ_eq_append_getElem h', List.all_append]
  simp; rfl
theorem all_false (p : UInt8 → Bool) (s : ByteArray) (k : Nat) (h : k < s.size) (hp : p s[k] = false) : s.data.toList.all p = false := by
  have h' : k < s.data.toList.length := by simpa using h
  cases hc : s.data.toList.all p with
  | false => rfl
  | true =>
    have := List.all_eq_true.1 hc s.data.toList[k] (List.getElem_mem h')
    rw [show s.data.toList[k] = s[k] from rfl, hp] at this; cases this
set_option maxHeartbeats 2000000 in
theorem letters_any (s also : ByteArray) (w : World) (hs : s.size ≤ maxLen) :
    Calls Tryz.prog 144 #[.string s, .string also] w fun e w' => e = .returned (.bool (lettersB also.data.toList s.data.toList)) ∧ w = w' := by
  unfold maxLen at hs
  go_enter Tryz.func144, Tryz.ntmps144
  go_wp2
  go_loop [8] (fun i => ∃ k : Nat, k ≤ s.size ∧ i = .int .i64 k ∧ Hid ((s.data.toList.take k).all (letB also.data.toList) = true)) (fun i => s.size - (RowKit.intOf i).toNat)
  case atStart => exact ⟨0, Nat.zero_le _, rfl, rfl⟩
  case round =>
    obtain ⟨k, hk, rfl, H⟩ := hrel
    by_cases hlt : k < s.size
    · have HA := hid (all_snoc (letB also.data.toList) s k hlt)
      have HF := hid (all_false (letB also.data.toList) s k hlt)
      by_cases h1 : (65 : Int) ≤ (s[k].toNat : Int)
      · have d1 : decide ((s[k].toNat : Int) < 65) = false := decide_eq_false (by omega)
        by_cases h2 : (s[k].toNat : Int) ≤ 90
        · have d2 : decide ((s[k].toNat : Int) > 90) = false := decide_eq_false (by omega)
          have HU := hid (show letB also.data.toList s[k] = true by unfold letB upB; simp only [decide_eq_true h1, decide_eq_true h2]; rfl)
          go_wp2
          go_round
          case rel => exact ⟨k + 1, by omega, by go_num, hid (by rw [HA.out, H.out, HU.out]; rfl)⟩
          case measure => simp [RowKit.intOf]; omega
        · have d2 : decide ((s[k].toNat : Int) > 90) = true := decide_eq_true (by omega)
          have hu : upB s[k] = false := by unfold upB; rw [decide_eq_false h2, Bool.and_false]
          cases hc : also.data.toList.contains s[k] with
          | true =>
            have HU := hid (show letB also.data.toList s[k] = true by unfold letB; rw [hc, Bool.or_true])
            have d3 : decide (Lib.indexByte also.data.toList s[k] < 0) = false := by rw [indexByte_neg, hc]; rfl
            clear hc hu
            go_wp2_with fail
            refine (idxB_any also _ s[k] (by simp) _).mono ?_
            rintro e w' ⟨rfl, rfl⟩
            go_wp2
            go_round
            case rel => exact ⟨k + 1, by omega, by go_num, hid (by rw [HA.out, H.out, HU.out]; rfl)⟩
            case measure => simp [RowKit.intOf]; omega
          | false =>
            have HU := hid (HF.out (by unfold letB; rw [hc, hu]; rfl))
            have d3 : decide (Lib.indexByte also.data.toList s[k] < 0) = true := by rw [indexByte_neg, hc]; rfl
            clear hc hu
            go_wp2_with fail
            refine (idxB_any also _ s[k] (by simp) _).mono ?_
            rintro e w' ⟨rfl, rfl⟩
            go_wp2
            go_ret
            exact ⟨ret_bool (by unfold lettersB; rw [HU.out]), rfl⟩
      · have d1 : decide ((s[k].toNat : Int) < 65) = true := decide_eq_true (by omega)
        have hu : upB s[k] = false := by unfold upB; rw [decide_eq_false h1, Bool.false_and]
        cases hc : also.data.toList.contains s[k] with
        | true =>
          have HU := hid (show letB also.data.toList s[k] = true by unfold letB; rw [hc, Bool.or_true])
          have d3 : decide (Lib.indexByte also.data.toList s[k] < 0) = false := by rw [indexByte_neg, hc]; rfl
          clear hc hu
          go_wp2_with fail
          refine (idxB_any also _ s[k] (by simp) _).mono ?_
          rintro e w' ⟨rfl, rfl⟩
          go_wp2
          go_round
          case rel => exact ⟨k + 1, by omega, by go_num, hid (by rw [HA.out, H.out, HU.out]; rfl)⟩
          case measure => simp [RowKit.intOf]; omega
        | false =>
          have HU := hid (HF.out (by unfold letB; rw [hc, hu]; rfl))
          have d3 : decide (Lib.indexByte also.data.toList s[k] < 0) = true := by rw [indexByte_neg, hc]; rfl
          clear hc hu
          go_wp2_with fail
          refine (idxB_any also _ s[k] (by simp) _).mono ?_
          rintro e w' ⟨rfl, rfl⟩
          go_wp2
          go_ret
          exact ⟨ret_bool (by unfold lettersB; rw [HU.out]), rfl⟩
    · obtain rfl : k = s.size := by omega
      have HU := hid (show s.data.toList.all (letB also.data.toList) = true by
        have := H.out
        rw [List.take_of_length_le (by simp)] at this; exact this)
      clear H
      go_wp2
      go_ret
      exact ⟨ret_bool (by unfold lettersB; rw [HU.out]), rfl⟩
def amtB (x : Int) : Bool := decide (0 ≤ x) && decide (x ≤ 1125899906842624)
theorem amt_cases (x : Int) : (x < 0 ∧ amtB x = false) ∨ (0 ≤ x ∧ mayI x = true ∧ amtB x = true) ∨ (0 ≤ x ∧ mayI x = false ∧ amtB x = false) := by
  unfold amtB mayI
  by_cases h0 : 0 ≤ x
  · by_cases h1 : x ≤ 1125899906842624
    · right; left; simp [h0, h1]; omega
    · right; right; simp [h0, h1]
  · left; simp; omega
set_option maxHeartbeats 2000000 in
theorem amounts_any (a : Option Addr) (n cap : Nat) (xs : List Int) (w : World) (hn : xs.length = n) (hr : Row w a (xs.map (.int .i64))) (hm : n ≤ 9223372036854775807) :
    Calls Tryz.prog 147 #[.slice a n cap] w fun e w' => e = .returned (.bool (xs.all amtB)) ∧ Below w.heap.size w w' := by
  subst hn
  have Hr := hid hr
  clear hr
  go_enter Tryz.func147, Tryz.ntmps147
  go_wp2
  go_loopw [7] (fun i wr => ∃ k : Nat, k ≤ xs.length ∧ i = .int .i64 k ∧ Hid ((xs.take k).all amtB = true) ∧ Aside (Below w.heap.size w wr)) (fun i _ => xs.length - (RowKit.intOf i).toNat)
  case atStart => exact ⟨0, Nat.zero_le _, rfl, rfl, Below.refl _ _⟩
  case round =>
    obtain ⟨k, hk, rfl, H, hb⟩ := hrel
    by_cases hlt : k < xs.length
    · obtain ⟨b, off, rfl, hc⟩ := (Hr.out.kept hb.out).int k hlt
      have hs := all_take_succ (p := amtB) hlt
      have hf : amtB (xs.getD k 0) = false → xs.all amtB = false := fun h => by
        cases hc : xs.all amtB with
        | false => rfl
        | true =>
          have := List.all_eq_true.1 hc xs[k] (List.getElem_mem hlt)
          rw [show xs.getD k 0 = xs[k] by simp [List.getD_eq_getElem?_getD, hlt], this] at h; cases h
      generalize xs.getD k 0 = x at *
      have HS := hid hs
      have HF := hid hf
      clear hs hf
      rcases amt_cases x with ⟨h1, h2⟩ | ⟨h1, h2, h3⟩ | ⟨h1, h2, h3⟩
      · have d1 : decide (x < 0) = true := decide_eq_true h1
        have HU := hid (HF.out h2)
        clear h2
        go_wp2
        go_ret
        exact ⟨ret_bool (by rw [HU.out]), hb.out⟩
      · have d1 : decide (x < 0) = false := decide_eq_false (by omega)
        have d2 : (errI x != 0) = false := by simp [errI, h2]
        have H3 := hid h3
        clear h2 h3
        go_wp2_with fail
        refine (check_any _ _).mono ?_
        rintro e w2 ⟨rfl, hb2⟩
        go_wp2
        go_roundw
        case rel => exact ⟨k + 1, by omega, by go_num, hid (by rw [HS.out, H.out, H3.out]; rfl), bt hb.out hb2⟩
        case measure => simp [RowKit.intOf]; omega
      · have d1 : decide (x < 0) = false := decide_eq_false (by omega)
        have d2 : (errI x != 0) = true := by simp [errI, h2]
        have HU := hid (HF.out h3)
        clear h2 h3
        go_wp2_with fail
        refine (check_any _ _).mono ?_
        rintro e w2 ⟨rfl, hb2⟩
        go_wp2
        go_ret
        exact ⟨ret_bool (by rw [HU.out]), bt hb.out hb2⟩
    · obtain rfl : k = xs.length := by omega
      have HU := hid (show xs.all amtB = true by have := H.out; rw [List.take_length] at this; exact this)
      clear H
      go_wp2
      go_ret
      exact ⟨ret_bool (by rw [HU.out]), hb.out⟩
end Go.Proofs.YtdnaegleifhmgaaGreat
end
section
namespace Go.Proofs.YtdnaegleifhmgaaGreat
open Go.RowKit Go.Lib Go.Tk
structure Leg where
  c : Int
  f : Int
  x : Int
deriving DecidableEq, Inhabited
structure Tax where
  code : ByteArray
  amt : Int
deriving DecidableEq, Inhabited
def encLeg (l : Leg) : List Value := [.int .u8 l.c, .int .u16 l.f, .int .u32 l.x]
def encTax (t : Tax) : List Value := [.string t.code, .int .i64 t.amt]
theorem encLeg_len (l : Leg) : (encLeg l).length = 3 := rfl
theorem encTax_len (t : Tax) : (encTax t).length = 2 := rfl
theorem encLeg_one (l : Leg) : ∀ v ∈ encLeg l, v.oneCell' = true := by simp [encLeg, Value.oneCell']
theorem encTax_one (t : Tax) : ∀ v ∈ encTax t, v.oneCell' = true := by simp [encTax, Value.oneCell']
theorem leg_at {w : World} {a : Option Addr} {l : List Leg} (h : Row w a (cellsL encLeg l)) {k : Nat} (hk : k < l.length) :
    ∃ b off, a = some ⟨b, off, none⟩ ∧ w.cell? ⟨b, off + k * 3, none⟩ = some (.int .u8 l[k].c) ∧ w.cell? ⟨b, off + k * 3 + 1, none⟩ = some (.int .u16 l[k].f) ∧ w.cell? ⟨b, off + k * 3 + 2, none⟩ = some (.int .u32 l[k].x) := by
  obtain ⟨b, off, hab, hc⟩ := h.thing encLeg_len hk (by decide)
  exact ⟨b, off, hab, hc 0 (by decide), hc 1 (by decide), hc 2 (by decide)⟩
theorem tax_at {w : World} {a : Option Addr} {l : List Tax} (h : Row w a (cellsL encTax l)) {k : Nat} (hk : k < l.length) :
    ∃ b off, a = some ⟨b, off, none⟩ ∧ w.cell? ⟨b, off + k * 2, none⟩ = some (.string l[k].code) ∧ w.cell? ⟨b, off + k * 2 + 1, none⟩ = some (.int .i64 l[k].amt) := by
  obtain ⟨b, off, hab, hc⟩ := h.thing encTax_len hk (by decide)
  exact ⟨b, off, hab, hc 0 (by decide), hc 1 (by decide)⟩
theorem any_take_succ {α : Type} {p : α → Bool} {l : List α} {k : Nat} (h : k < l.length) : (l.take (k + 1)).any p = ((l.take k).any p || p l[k]) := by
  rw [List.take_succ_eq_append_getElem h, List.any_append]; simp
theorem any_at {α : Type} {p : α → Bool} {l : List α} {k : Nat} (h : k < l.length) (hp : p l[k] = true) : l.any p = true := List.any_eq_true.2 ⟨_, List.getElem_mem h, hp⟩
def IdxIs (b : Bool) (w : World) (e : Ending) (w' : World) : Prop := ∃ r : Int, e = .returned (.int .i64 r) ∧ decide (r ≥ 0) = b ∧ Below w.heap.size w w'
def legBad (n : Int) (l : Leg) : Bool := decide (l.c ≥ n) || (l.x == 0)
set_option maxHeartbeats 400000 in
theorem legBad_any (n : Int) (l : Leg) (nb : Nat) (w : World) (hc : w.cell? ⟨nb, 0, none⟩ = some (.int .i64 n)) (h0 : 0 ≤ l.c) (h1 : l.c ≤ 255) :
    Calls Tryz.prog 150 #[.agg #[.int .u8 l.c, .int .u16 l.f, .int .u32 l.x], .pointer (some ⟨nb, 0, none⟩)] w fun e w' => e = .returned (.bool (legBad n l)) ∧ Below w.heap.size w w' := by
  obtain ⟨c, f, x⟩ := l
  dsimp only at h0 h1 ⊢
  have hlt : nb < w.heap.size := lt_of_cell hc
  by_cases hcn : c ≥ n
  · have F := hid (show legBad n ⟨c, f, x⟩ = true by simp [legBad, hcn])
    have d1 : decide (c ≥ n) = true := decide_eq_true hcn
    go_enter Tryz.func150, Tryz.ntmps150
    go_wp2
    go_ret
    exact ⟨ret_bool F.out.symm, (Below.refl _ _).alloc (Nat.le_refl _) _⟩
  · have F := hid (show legBad n ⟨c, f, x⟩ = (x == 0) by simp [legBad, hcn])
    have d1 : decide (c ≥ n) = false := decide_eq_false hcn
    go_enter Tryz.func150, Tryz.ntmps150
    go_wp2
    go_ret
    exact ⟨ret_bool F.out.symm, (Below.refl _ _).alloc (Nat.le_refl _) _⟩
def taxBad (t : Tax) : Bool := decide (t.code.size ≠ 2) || !lettersB [] t.code.data.toList || !amtB t.amt
set_option maxHeartbeats 1000000 in
theorem taxBad_any (t : Tax) (w : World) (hs : t.code.size ≤ maxLen) :
    Calls Tryz.prog 153 #[.agg #[.string t.code, .int .i64 t.amt]] w fun e w' => e = .returned (.bool (taxBad t)) ∧ Below w.heap.size w w' := by
  obtain ⟨code, amt⟩ := t
  dsimp only at hs ⊢
  have hs' := hs
  unfold maxLen at hs'
  by_cases h2 : code.size = 2
  · have d1 : ((code.size : Int) != 2) = false := by simp; omega
    have H2 := hid h2
    clear h2
    cases hl : lettersB [] code.data.toList with
    | false =>
      have F := hid (show taxBad ⟨code, amt⟩ = true by simp [taxBad, hl])
      go_enter Tryz.func153, Tryz.ntmps153
      go_wp2_with fail
      refine (letters_any code _ _ hs).mono ?_
      rintro e w' ⟨rfl, rfl⟩
      rw [show ByteArray.data { data := #[] } = #[] from rfl, hl]
      go_wp2
      go_ret
      exact ⟨ret_bool F.out.symm, (Below.refl _ _).alloc (Nat.le_refl _) _⟩
    | true =>
      have F := hid (show taxBad ⟨code, amt⟩ = !([amt].all amtB) by simp [taxBad, hl, H2.out])
      go_enter Tryz.func153, Tryz.ntmps153
      go_wp2_with fail
      refine (letters_any code _ _ hs).mono ?_
      rintro e w' ⟨rfl, rfl⟩
      rw [show ByteArray.data { data := #[] } = #[] from rfl, hl]
      go_wp2_with fail
      refine (amounts_any _ 1 _ [amt] _ rfl (row_new (vs := [.int .i64 amt]) (by simp)) (by omega)).mono ?_
      rintro e w2 ⟨rfl, hb⟩
      generalize [amt].all amtB = q at *
      go_wp2
      go_ret
      exact ⟨ret_bool F.out.symm, (((Below.refl _ _).alloc (Nat.le_refl _) _).alloc (by simp) _).trans (hb.mono (by simp; omega))⟩
  · have F := hid (show taxBad ⟨code, amt⟩ = true by simp [taxBad, h2])
    have d1 : ((code.size : Int) != 2) = true := by simp; omega
    clear h2
    go_enter Tryz.func153, Tryz.ntmps153
    go_wp2
    go_ret
    exact ⟨ret_bool F.out.symm, (Below.refl _ _).alloc (Nat.le_refl _) _⟩
set_option maxHeartbeats 1000000 in
theorem idxLeg_any (n : Int) (nb : Nat) (l : List Leg) (a : Option Addr) (m cap : Nat) (w : World) (hn : l.length = m) (hm : m ≤ 9223372036854775807) (hr : Row w a (cellsL encLeg l)) (hb : ∀ x ∈ l, 0 ≤ x.c ∧ x.c ≤ 255) (hc : w.cell? ⟨nb, 0, none⟩ = some (.int .i64 n)) :
    Calls Tryz.prog 160 #[.slice a m cap, .func (.func 150) #[] #[.pointer (some ⟨nb, 0, none⟩)]] w (IdxIs (l.any (legBad n)) w) := by
  subst hn
  have Hr := hid hr
  have Hb := hid hb
  have Hc := hid hc
  have hlt : nb < w.heap.size := lt_of_cell hc
  clear hr hb hc
  go_enter Tryz.func160, Tryz.ntmps160
  go_wp2
  go_loopw [8] (fun i wr => ∃ k : Nat, k ≤ l.length ∧ i = .int .i64 k ∧ Hid ((l.take k).any (legBad n) = false) ∧ Aside (Below w.heap.size w wr)) (fun i _ => l.length - (RowKit.intOf i).toNat)
  case atStart => exact ⟨0, Nat.zero_le _, rfl, rfl, Below.refl _ _⟩
  case round =>
    obtain ⟨k, hk, rfl, H, B⟩ := hrel
    by_cases hlt2 : k < l.length
    · obtain ⟨b, off, rfl, c1, c2, c3⟩ := leg_at (Hr.out.kept B.out) hlt2
      have hcn : wr.cell? ⟨nb, 0, none⟩ = some (.int .i64 n) := by rw [B.out.cell (p := ⟨nb, 0, none⟩) hlt]; exact Hc.out
      have HS := hid (any_take_succ (p := legBad n) hlt2)
      have HT := hid (any_at (p := legBad n) hlt2)
      have hx := Hb.out _ (List.getElem_mem hlt2)
      generalize l[k] = x at *
      have KEY := hid (legBad_any n x nb wr hcn hx.1 hx.2)
      cases hp : legBad n x with
      | true =>
        have HU := hid (HT.out hp)
        go_wp2_with fail
        refine KEY.out.mono ?_
        rintro e w2 ⟨rfl, hb2⟩
        rw [hp]
        clear hp
        go_wp2
        go_ret
        exact ⟨k, rfl, by rw [HU.out]; exact decide_eq_true (by omega), bt B.out hb2⟩
      | false =>
        have HU := hid hp
        go_wp2_with fail
        refine KEY.out.mono ?_
        rintro e w2 ⟨rfl, hb2⟩
        rw [hp]
        clear hp
        go_wp2
        go_roundw
        case rel => exact ⟨k + 1, by omega, by go_num, hid (by rw [HS.out, H.out, HU.out]; rfl), bt B.out hb2⟩
        case measure => simp [RowKit.intOf]; omega
    · obtain rfl : k = l.length := by omega
      have HU := hid (show l.any (legBad n) = false by have := H.out; rw [List.take_length] at this; exact this)
      clear H
      go_wp2
      go_ret
      exact ⟨-1, rfl, by rw [HU.out]; decide, B.out⟩
set_option maxHeartbeats 1000000 in
theorem idxTax_any (l : List Tax) (a : Option Addr) (m cap : Nat) (w : World) (hn : l.length = m) (hm : m ≤ 9223372036854775807) (hr : Row w a (cellsL encTax l)) (hb : ∀ x ∈ l, x.code.size ≤ maxLen) :
    Calls Tryz.prog 161 #[.slice a m cap, .func (.func 153) #[] #[]] w (IdxIs (l.any taxBad) w) := by
  subst hn
  have Hr := hid hr
  have Hb := hid hb
  clear hr hb
  go_enter Tryz.func161, Tryz.ntmps161
  go_wp2
  go_loopw [8] (fun i wr => ∃ k : Nat, k ≤ l.length ∧ i = .int .i64 k ∧ Hid ((l.take k).any taxBad = false) ∧ Aside (Below w.heap.size w wr)) (fun i _ => l.length - (RowKit.intOf i).toNat)
  case atStart => exact ⟨0, Nat.zero_le _, rfl, rfl, Below.refl _ _⟩
  case round =>
    obtain ⟨k, hk, rfl, H, B⟩ := hrel
    by_cases hlt2 : k < l.length
    · obtain ⟨b, off, rfl, c1, c2⟩ := tax_at (Hr.out.kept B.out) hlt2
      have HS := hid (any_take_succ (p := taxBad) hlt2)
      have HT := hid (any_at (p := taxBad) hlt2)
      have hx := Hb.out _ (List.getElem_mem hlt2)
      generalize l[k] = x at *
      have KEY := hid (taxBad_any x wr hx)
      clear hx
      cases hp : taxBad x with
      | true =>
        have HU := hid (HT.out hp)
        go_wp2_with fail
        refine KEY.out.mono ?_
        rintro e w2 ⟨rfl, hb2⟩
        rw [hp]
        clear hp
        go_wp2
        go_ret
        exact ⟨k, rfl, by rw [HU.out]; exact decide_eq_true (by omega), bt B.out hb2⟩
      | false =>
        have HU := hid hp
        go_wp2_with fail
        refine KEY.out.mono ?_
        rintro e w2 ⟨rfl, hb2⟩
        rw [hp]
        clear hp
        go_wp2
        go_roundw
        case rel => exact ⟨k + 1, by omega, by go_num, hid (by rw [HS.out, H.out, HU.out]; rfl), bt B.out hb2⟩
        case measure => simp [RowKit.intOf]; omega
    · obtain rfl : k = l.length := by omega
      have HU := hid (show l.any taxBad = false by have := H.out; rw [List.take_length] at this; exact this)
      clear H
      go_wp2
      go_ret
      exact ⟨-1, rfl, by rw [HU.out]; decide, B.out⟩
set_option maxHeartbeats 400000 in
theorem hasLeg_any (n : Int) (nb : Nat) (l : List Leg) (a : Option Addr) (m cap : Nat) (w : World) (hn : l.length = m) (hm : m ≤ 9223372036854775807) (hr : Row w a (cellsL encLeg l)) (hb : ∀ x ∈ l, 0 ≤ x.c ∧ x.c ≤ 255) (hc : w.cell? ⟨nb, 0, none⟩ = some (.int .i64 n)) :
    Calls Tryz.prog 149 #[.slice a m cap, .func (.func 150) #[] #[.pointer (some ⟨nb, 0, none⟩)]] w fun e w' => e = .returned (.bool (l.any (legBad n))) ∧ Below w.heap.size w w' := by
  have KEY := hid (idxLeg_any n nb l a m cap w hn hm hr hb hc)
  clear hr hb hc hn
  go_enter Tryz.func149, Tryz.ntmps149
  go_wp2_with fail
  refine KEY.out.mono ?_
  rintro e w2 ⟨r, rfl, hr, hb2⟩
  have HR := hid hr
  clear hr
  go_wp2
  go_ret
  exact ⟨ret_bool (by first | exact HR.out | (rw [← HR.out])), hb2⟩
set_option maxHeartbeats 400000 in
theorem hasTax_any (l : List Tax) (a : Option Addr) (m cap : Nat) (w : World) (hn : l.length = m) (hm : m ≤ 9223372036854775807) (hr : Row w a (cellsL encTax l)) (hb : ∀ x ∈ l, x.code.size ≤ maxLen) :
    Calls Tryz.prog 152 #[.slice a m cap, .func (.func 153) #[] #[]] w fun e w' => e = .returned (.bool (l.any taxBad)) ∧ Below w.heap.size w w' := by
  have KEY := hid (idxTax_any l a m cap w hn hm hr hb)
  clear hr hb hn
  go_enter Tryz.func152, Tryz.ntmps152
  go_wp2_with fail
  refine KEY.out.mono ?_
  rintro e w2 ⟨r, rfl, hr, hb2⟩
  have HR := hid hr
  clear hr
  go_wp2
  go_ret
  exact ⟨ret_bool (by first | exact HR.out | (rw [← HR.out])), hb2⟩
end Go.Proofs.YtdnaegleifhmgaaGreat
end
