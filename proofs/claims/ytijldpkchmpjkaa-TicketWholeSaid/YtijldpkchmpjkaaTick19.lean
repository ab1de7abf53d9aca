/- TICKET 19: lists of statuses asked; what is given, by the document. -/
import Derived.Test.YtijldpkchmpjkaaTick12
namespace Go.Proofs.Ytijldpkchmpjkaa
open Go.RowKit Go.Lib Go.Tk Go.Sort Go.Shelf

def stB (s : Int) : Bool := decide (1 ≤ s) && decide (s ≤ 7)

theorem is_anyT (s : Int) (w : World) :
    Calls Try.prog 59 #[.int .u8 s] w fun e w' => e = .returned (.bool (stB s)) ∧ w = w' := by
  go_enter Try.func59, Try.ntmps59
  go_wp2
  all_goals (go_ret; refine ⟨ret_bool ?_, rfl⟩; unfold stB; rw [Bool.eq_iff_iff]; simp; omega)
theorem ris_anyT (s : Int) (w : World) :
    Calls Try.prog 61 #[.int .u8 s] w fun e w' => e = .returned (.bool (stB s)) ∧ w = w' := by
  go_enter Try.func61, Try.ntmps61
  go_wp2
  all_goals (go_ret; refine ⟨ret_bool ?_, rfl⟩; unfold stB; rw [Bool.eq_iff_iff]; simp; omega)
theorem notIs_any (s : Int) (w : World) :
    Calls Try.prog 58 #[.int .u8 s] w fun e w' => e = .returned (.bool (!stB s)) ∧ w = w' := by
  go_enter Try.func58, Try.ntmps58
  go_wp2_with fail
  refine (is_anyT _ _).mono ?_
  rintro e w' ⟨rfl, rfl⟩
  go_wp2
  go_ret
  exact ⟨rfl, rfl⟩

theorem st_at {w : World} {a : Option Addr} {l : List Int} (h : Row w a (l.map (.int .u8))) {k : Nat} (hk : k < l.length) :
    ∃ b off, a = some ⟨b, off, none⟩ ∧ w.cell? ⟨b, off + k, none⟩ = some (.int .u8 l[k]) := by
  obtain ⟨b, off, hab, hc⟩ := h k (by simpa using hk)
  refine ⟨b, off, hab, ?_⟩
  rw [hc]; simp [List.getD_eq_getElem?_getD, hk]

set_option maxHeartbeats 1000000 in
theorem idxSt_any (l : List Int) (a : Option Addr) (m cap : Nat) (w : World) (hn : l.length = m) (hm : m ≤ 9223372036854775807) (hr : Row w a (l.map (.int .u8))) :
    Calls Try.prog 67 #[.slice a m cap, .func (.func 58) #[] #[]] w (IdxIs (l.any (fun s => !stB s)) w) := by
  subst hn
  have Hr := hid hr
  clear hr
  go_enter Try.func67, Try.ntmps67
  go_wp2
  go_loopw [8] (fun i wr => ∃ k : Nat, k ≤ l.length ∧ i = .int .i64 k ∧ Hid ((l.take k).any (fun s => !stB s) = false) ∧ Aside (Below w.heap.size w wr)) (fun i _ => l.length - (intOf i).toNat)
  case atStart => exact ⟨0, Nat.zero_le _, rfl, rfl, Below.refl _ _⟩
  case round =>
    obtain ⟨k, hk, rfl, H, B⟩ := hrel
    by_cases hlt2 : k < l.length
    · obtain ⟨b, off, rfl, c1⟩ := st_at (Hr.out.kept B.out) hlt2
      have HS := hid (any_take_succ (p := fun s => !stB s) hlt2)
      have HT := hid (any_at (p := fun s => !stB s) hlt2)
      generalize l[k] = x at *
      have KEY := hid (notIs_any x wr)
      cases hp : stB x with
      | false =>
        have HU := hid (HT.out (by rw [hp]; rfl))
        go_wp2_with fail
        refine KEY.out.mono ?_
        rintro e w2 ⟨rfl, rfl⟩
        rw [hp]
        clear hp
        go_wp2
        go_ret
        exact ⟨k, rfl, by rw [HU.out]; exact decide_eq_true (by omega), B.out⟩
      | true =>
        have HU := hid hp
        go_wp2_with fail
        refine KEY.out.mono ?_
        rintro e w2 ⟨rfl, rfl⟩
        rw [hp]
        clear hp
        go_wp2
        go_roundw
        case rel => exact ⟨k + 1, by omega, by go_num, hid (by rw [HS.out, H.out, HU.out]; rfl), B.out⟩
        case measure => simp [intOf]; omega
    · obtain rfl : k = l.length := by omega
      have HU := hid (show l.any (fun s => !stB s) = false by have := H.out; rw [List.take_length] at this; exact this)
      clear H
      go_wp2
      go_ret
      exact ⟨-1, rfl, by rw [HU.out]; decide, B.out⟩

set_option maxHeartbeats 400000 in
theorem hasSt_any (l : List Int) (a : Option Addr) (m cap : Nat) (w : World) (hn : l.length = m) (hm : m ≤ 9223372036854775807) (hr : Row w a (l.map (.int .u8))) :
    Calls Try.prog 57 #[.slice a m cap, .func (.func 58) #[] #[]] w fun e w' => e = .returned (.bool (l.any (fun s => !stB s))) ∧ Below w.heap.size w w' := by
  have KEY := hid (idxSt_any l a m cap w hn hm hr)
  clear hr hn
  go_enter Try.func57, Try.ntmps57
  go_wp2_with fail
  refine KEY.out.mono ?_
  rintro e w2 ⟨r, rfl, hr, hb2⟩
  have HR := hid hr
  clear hr
  go_wp2
  go_ret
  exact ⟨ret_bool (by first | exact HR.out | (rw [← HR.out])), hb2⟩

/-! ### what is given, by the document -/
theorem rgive_any (v p : Int) (w : World) (hv : v ≤ 9223372036854775807) (hp : p ≤ 9223372036854775807) :
    Calls Try.prog 29 #[.int .i64 v, .int .i64 p] w fun e w' => e = .returned (.tuple #[.int .i64 (giveV v p), .int .i64 (giveK v p)]) ∧ Below w.heap.size w w' := by
  go_enter Try.func29, Try.ntmps29
  unfold giveV giveK
  by_cases h1 : v < 0
  · rw [if_pos (.inl h1), if_pos (.inl h1)]
    go_wp2
    go_ret2
    exact ⟨rfl, Below.refl _ _⟩
  by_cases h2 : p < 0
  · rw [if_pos (.inr h2), if_pos (.inr h2)]
    go_wp2
    go_ret2
    exact ⟨rfl, Below.refl _ _⟩
  rw [if_neg (by omega), if_neg (by omega)]
  by_cases h3 : v < p
  · rw [show min v p = v by omega, show v - v = 0 by omega]
    go_wp2
    go_ret2
    exact ⟨rfl, Below.refl _ _⟩
  · rw [show min v p = p by omega]
    go_wp2
    go_ret2
    exact ⟨by go_num, Below.refl _ _⟩
end Go.Proofs.Ytijldpkchmpjkaa
