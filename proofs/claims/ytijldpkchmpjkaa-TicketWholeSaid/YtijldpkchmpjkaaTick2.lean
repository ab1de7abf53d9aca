/- TICKET 2: legs and taxes: lists of them, asked, held against each other, copied. -/
import Derived.Test.YtijldpkchmpjkaaTick1
import Derived.Test.YtijldpkchmpjkaaRowS
import Derived.BigRegion
namespace Go.Proofs.Ytijldpkchmpjkaa
open Go.RowKit Go.Lib Go.Tk

structure Leg where
  c : Int
  f : Int
  x : Int
deriving DecidableEq, Inhabited
structure Tax where
  code : ByteArray
  amt : Int
deriving DecidableEq, Inhabited
def encLeg (l : Leg) : List Value := [.int .u8 l.c, .int .u16 l.f, .int .u32 l.x]
def encTax (t : Tax) : List Value := [.string t.code, .int .i64 t.amt]
theorem encLeg_len (l : Leg) : (encLeg l).length = 3 := rfl
theorem encTax_len (t : Tax) : (encTax t).length = 2 := rfl
theorem encLeg_one (l : Leg) : ∀ v ∈ encLeg l, v.oneCell' = true := by simp [encLeg, Value.oneCell']
theorem encTax_one (t : Tax) : ∀ v ∈ encTax t, v.oneCell' = true := by simp [encTax, Value.oneCell']

theorem leg_at {w : World} {a : Option Addr} {l : List Leg} (h : Row w a (cellsL encLeg l)) {k : Nat} (hk : k < l.length) :
    ∃ b off, a = some ⟨b, off, none⟩ ∧ w.cell? ⟨b, off + k * 3, none⟩ = some (.int .u8 l[k].c) ∧ w.cell? ⟨b, off + k * 3 + 1, none⟩ = some (.int .u16 l[k].f) ∧ w.cell? ⟨b, off + k * 3 + 2, none⟩ = some (.int .u32 l[k].x) := by
  obtain ⟨b, off, hab, hc⟩ := h.thing encLeg_len hk (by decide)
  exact ⟨b, off, hab, hc 0 (by decide), hc 1 (by decide), hc 2 (by decide)⟩
theorem tax_at {w : World} {a : Option Addr} {l : List Tax} (h : Row w a (cellsL encTax l)) {k : Nat} (hk : k < l.length) :
    ∃ b off, a = some ⟨b, off, none⟩ ∧ w.cell? ⟨b, off + k * 2, none⟩ = some (.string l[k].code) ∧ w.cell? ⟨b, off + k * 2 + 1, none⟩ = some (.int .i64 l[k].amt) := by
  obtain ⟨b, off, hab, hc⟩ := h.thing encTax_len hk (by decide)
  exact ⟨b, off, hab, hc 0 (by decide), hc 1 (by decide)⟩

theorem any_take_succ {α : Type} {p : α → Bool} {l : List α} {k : Nat} (h : k < l.length) : (l.take (k + 1)).any p = ((l.take k).any p || p l[k]) := by
  rw [List.take_succ_eq_append_getElem h, List.any_append]; simp
theorem any_at {α : Type} {p : α → Bool} {l : List α} {k : Nat} (h : k < l.length) (hp : p l[k] = true) : l.any p = true := List.any_eq_true.2 ⟨_, List.getElem_mem h, hp⟩

/-- an index that says whether there is one -/
def IdxIs (b : Bool) (w : World) (e : Ending) (w' : World) : Prop := ∃ r : Int, e = .returned (.int .i64 r) ∧ decide (r ≥ 0) = b ∧ Below w.heap.size w w'

/-! ### closures -/
def legBad (n : Int) (l : Leg) : Bool := decide (l.c ≥ n) || (l.x == 0)
set_option maxHeartbeats 400000 in
theorem legBad_any (n : Int) (l : Leg) (nb : Nat) (w : World) (hc : w.cell? ⟨nb, 0, none⟩ = some (.int .i64 n)) (h0 : 0 ≤ l.c) (h1 : l.c ≤ 255) :
    Calls Try.prog 51 #[.agg #[.int .u8 l.c, .int .u16 l.f, .int .u32 l.x], .pointer (some ⟨nb, 0, none⟩)] w fun e w' => e = .returned (.bool (legBad n l)) ∧ Below w.heap.size w w' := by
  obtain ⟨c, f, x⟩ := l
  dsimp only at h0 h1 ⊢
  have hlt : nb < w.heap.size := lt_of_cell hc
  by_cases hcn : c ≥ n
  · have F := hid (show legBad n ⟨c, f, x⟩ = true by simp [legBad, hcn])
    have d1 : decide (c ≥ n) = true := decide_eq_true hcn
    go_enter Try.func51, Try.ntmps51
    go_wp2
    go_ret
    exact ⟨ret_bool F.out.symm, (Below.refl _ _).alloc (Nat.le_refl _) _⟩
  · have F := hid (show legBad n ⟨c, f, x⟩ = (x == 0) by simp [legBad, hcn])
    have d1 : decide (c ≥ n) = false := decide_eq_false hcn
    go_enter Try.func51, Try.ntmps51
    go_wp2
    go_ret
    exact ⟨ret_bool F.out.symm, (Below.refl _ _).alloc (Nat.le_refl _) _⟩

def taxBad (t : Tax) : Bool := decide (t.code.size ≠ 2) || !lettersB [] t.code.data.toList || !amtB t.amt
set_option maxHeartbeats 1000000 in
theorem taxBad_any (t : Tax) (w : World) (hs : t.code.size ≤ maxLen) :
    Calls Try.prog 54 #[.agg #[.string t.code, .int .i64 t.amt]] w fun e w' => e = .returned (.bool (taxBad t)) ∧ Below w.heap.size w w' := by
  obtain ⟨code, amt⟩ := t
  dsimp only at hs ⊢
  have hs' := hs
  unfold maxLen at hs'
  by_cases h2 : code.size = 2
  · have d1 : ((code.size : Int) != 2) = false := by simp; omega
    have H2 := hid h2
    clear h2
    cases hl : lettersB [] code.data.toList with
    | false =>
      have F := hid (show taxBad ⟨code, amt⟩ = true by simp [taxBad, hl])
      go_enter Try.func54, Try.ntmps54
      go_wp2_with fail
      refine (letters_any code _ _ hs).mono ?_
      rintro e w' ⟨rfl, rfl⟩
      rw [show ByteArray.data { data := #[] } = #[] from rfl, hl]
      go_wp2
      go_ret
      exact ⟨ret_bool F.out.symm, (Below.refl _ _).alloc (Nat.le_refl _) _⟩
    | true =>
      have F := hid (show taxBad ⟨code, amt⟩ = !([amt].all amtB) by simp [taxBad, hl, H2.out])
      go_enter Try.func54, Try.ntmps54
      go_wp2_with fail
      refine (letters_any code _ _ hs).mono ?_
      rintro e w' ⟨rfl, rfl⟩
      rw [show ByteArray.data { data := #[] } = #[] from rfl, hl]
      go_wp2_with fail
      refine (amounts_any _ 1 _ [amt] _ rfl (row_new (vs := [.int .i64 amt]) (by simp)) (by omega)).mono ?_
      rintro e w2 ⟨rfl, hb⟩
      generalize [amt].all amtB = q at *
      go_wp2
      go_ret
      exact ⟨ret_bool F.out.symm, (((Below.refl _ _).alloc (Nat.le_refl _) _).alloc (by simp) _).trans (hb.mono (by simp; omega))⟩
  · have F := hid (show taxBad ⟨code, amt⟩ = true by simp [taxBad, h2])
    have d1 : ((code.size : Int) != 2) = true := by simp; omega
    clear h2
    go_enter Try.func54, Try.ntmps54
    go_wp2
    go_ret
    exact ⟨ret_bool F.out.symm, (Below.refl _ _).alloc (Nat.le_refl _) _⟩

set_option maxHeartbeats 1000000 in
theorem idxLeg_any (n : Int) (nb : Nat) (l : List Leg) (a : Option Addr) (m cap : Nat) (w : World) (hn : l.length = m) (hm : m ≤ 9223372036854775807) (hr : Row w a (cellsL encLeg l)) (hb : ∀ x ∈ l, 0 ≤ x.c ∧ x.c ≤ 255) (hc : w.cell? ⟨nb, 0, none⟩ = some (.int .i64 n)) :
    Calls Try.prog 65 #[.slice a m cap, .func (.func 51) #[] #[.pointer (some ⟨nb, 0, none⟩)]] w (IdxIs (l.any (legBad n)) w) := by
  subst hn
  have Hr := hid hr
  have Hb := hid hb
  have Hc := hid hc
  have hlt : nb < w.heap.size := lt_of_cell hc
  clear hr hb hc
  go_enter Try.func65, Try.ntmps65
  go_wp2
  go_loopw [8] (fun i wr => ∃ k : Nat, k ≤ l.length ∧ i = .int .i64 k ∧ Hid ((l.take k).any (legBad n) = false) ∧ Aside (Below w.heap.size w wr)) (fun i _ => l.length - (intOf i).toNat)
  case atStart => exact ⟨0, Nat.zero_le _, rfl, rfl, Below.refl _ _⟩
  case round =>
    obtain ⟨k, hk, rfl, H, B⟩ := hrel
    by_cases hlt2 : k < l.length
    · obtain ⟨b, off, rfl, c1, c2, c3⟩ := leg_at (Hr.out.kept B.out) hlt2
      have hcn : wr.cell? ⟨nb, 0, none⟩ = some (.int .i64 n) := by rw [B.out.cell (p := ⟨nb, 0, none⟩) hlt]; exact Hc.out
      have HS := hid (any_take_succ (p := legBad n) hlt2)
      have HT := hid (any_at (p := legBad n) hlt2)
      have hx := Hb.out _ (List.getElem_mem hlt2)
      generalize l[k] = x at *
      have KEY := hid (legBad_any n x nb wr hcn hx.1 hx.2)
      cases hp : legBad n x with
      | true =>
        have HU := hid (HT.out hp)
        go_wp2_with fail
        refine KEY.out.mono ?_
        rintro e w2 ⟨rfl, hb2⟩
        rw [hp]
        clear hp
        go_wp2
        go_ret
        exact ⟨k, rfl, by rw [HU.out]; exact decide_eq_true (by omega), bt B.out hb2⟩
      | false =>
        have HU := hid hp
        go_wp2_with fail
        refine KEY.out.mono ?_
        rintro e w2 ⟨rfl, hb2⟩
        rw [hp]
        clear hp
        go_wp2
        go_roundw
        case rel => exact ⟨k + 1, by omega, by go_num, hid (by rw [HS.out, H.out, HU.out]; rfl), bt B.out hb2⟩
        case measure => simp [intOf]; omega
    · obtain rfl : k = l.length := by omega
      have HU := hid (show l.any (legBad n) = false by have := H.out; rw [List.take_length] at this; exact this)
      clear H
      go_wp2
      go_ret
      exact ⟨-1, rfl, by rw [HU.out]; decide, B.out⟩

set_option maxHeartbeats 1000000 in
theorem idxTax_any (l : List Tax) (a : Option Addr) (m cap : Nat) (w : World) (hn : l.length = m) (hm : m ≤ 9223372036854775807) (hr : Row w a (cellsL encTax l)) (hb : ∀ x ∈ l, x.code.size ≤ maxLen) :
    Calls Try.prog 66 #[.slice a m cap, .func (.func 54) #[] #[]] w (IdxIs (l.any taxBad) w) := by
  subst hn
  have Hr := hid hr
  have Hb := hid hb
  clear hr hb
  go_enter Try.func66, Try.ntmps66
  go_wp2
  go_loopw [8] (fun i wr => ∃ k : Nat, k ≤ l.length ∧ i = .int .i64 k ∧ Hid ((l.take k).any taxBad = false) ∧ Aside (Below w.heap.size w wr)) (fun i _ => l.length - (intOf i).toNat)
  case atStart => exact ⟨0, Nat.zero_le _, rfl, rfl, Below.refl _ _⟩
  case round =>
    obtain ⟨k, hk, rfl, H, B⟩ := hrel
    by_cases hlt2 : k < l.length
    · obtain ⟨b, off, rfl, c1, c2⟩ := tax_at (Hr.out.kept B.out) hlt2
      have HS := hid (any_take_succ (p := taxBad) hlt2)
      have HT := hid (any_at (p := taxBad) hlt2)
      have hx := Hb.out _ (List.getElem_mem hlt2)
      generalize l[k] = x at *
      have KEY := hid (taxBad_any x wr hx)
      clear hx
      cases hp : taxBad x with
      | true =>
        have HU := hid (HT.out hp)
        go_wp2_with fail
        refine KEY.out.mono ?_
        rintro e w2 ⟨rfl, hb2⟩
        rw [hp]
        clear hp
        go_wp2
        go_ret
        exact ⟨k, rfl, by rw [HU.out]; exact decide_eq_true (by omega), bt B.out hb2⟩
      | false =>
        have HU := hid hp
        go_wp2_with fail
        refine KEY.out.mono ?_
        rintro e w2 ⟨rfl, hb2⟩
        rw [hp]
        clear hp
        go_wp2
        go_roundw
        case rel => exact ⟨k + 1, by omega, by go_num, hid (by rw [HS.out, H.out, HU.out]; rfl), bt B.out hb2⟩
        case measure => simp [intOf]; omega
    · obtain rfl : k = l.length := by omega
      have HU := hid (show l.any taxBad = false by have := H.out; rw [List.take_length] at this; exact this)
      clear H
      go_wp2
      go_ret
      exact ⟨-1, rfl, by rw [HU.out]; decide, B.out⟩

set_option maxHeartbeats 400000 in
theorem hasLeg_any (n : Int) (nb : Nat) (l : List Leg) (a : Option Addr) (m cap : Nat) (w : World) (hn : l.length = m) (hm : m ≤ 9223372036854775807) (hr : Row w a (cellsL encLeg l)) (hb : ∀ x ∈ l, 0 ≤ x.c ∧ x.c ≤ 255) (hc : w.cell? ⟨nb, 0, none⟩ = some (.int .i64 n)) :
    Calls Try.prog 50 #[.slice a m cap, .func (.func 51) #[] #[.pointer (some ⟨nb, 0, none⟩)]] w fun e w' => e = .returned (.bool (l.any (legBad n))) ∧ Below w.heap.size w w' := by
  have KEY := hid (idxLeg_any n nb l a m cap w hn hm hr hb hc)
  clear hr hb hc hn
  go_enter Try.func50, Try.ntmps50
  go_wp2_with fail
  refine KEY.out.mono ?_
  rintro e w2 ⟨r, rfl, hr, hb2⟩
  have HR := hid hr
  clear hr
  go_wp2
  go_ret
  exact ⟨ret_bool (by first | exact HR.out | (rw [← HR.out])), hb2⟩
set_option maxHeartbeats 400000 in
theorem hasTax_any (l : List Tax) (a : Option Addr) (m cap : Nat) (w : World) (hn : l.length = m) (hm : m ≤ 9223372036854775807) (hr : Row w a (cellsL encTax l)) (hb : ∀ x ∈ l, x.code.size ≤ maxLen) :
    Calls Try.prog 53 #[.slice a m cap, .func (.func 54) #[] #[]] w fun e w' => e = .returned (.bool (l.any taxBad)) ∧ Below w.heap.size w w' := by
  have KEY := hid (idxTax_any l a m cap w hn hm hr hb)
  clear hr hb hn
  go_enter Try.func53, Try.ntmps53
  go_wp2_with fail
  refine KEY.out.mono ?_
  rintro e w2 ⟨r, rfl, hr, hb2⟩
  have HR := hid hr
  clear hr
  go_wp2
  go_ret
  exact ⟨ret_bool (by first | exact HR.out | (rw [← HR.out])), hb2⟩
end Go.Proofs.Ytijldpkchmpjkaa
