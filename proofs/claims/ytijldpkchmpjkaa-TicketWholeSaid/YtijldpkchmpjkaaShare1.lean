/- PRORATE: Share and Index: walks. -/
import Derived.Test.YtijldpkchmpjkaaRows
import Derived.Test.YtijldpkchmpjkaaMoney7
import Derived.Test.YtijldpkchmpjkaaSortRow
import Derived.Test.YtijldpkchmpjkaaProLaw
import Derived.Test.YtijldpkchmpjkaaSW8
namespace Go.Proofs.Ytijldpkchmpjkaa
open Go.RowKit Go.Lib Go.Tk Go.Sort Go.Shelf

def PosRow (ws : List Int) : Prop := ∀ x ∈ ws, 0 ≤ x ∧ x ≤ 4294967295
def shareE (t : Int) (ws : List Int) : Int := if 64 < ws.length then 2 else if ws.sum = 0 then 60 else if 0 ≤ t ∧ t ≤ 1125899906842624 then 0 else 7
def shareV (t : Int) (ws : List Int) : List Int := if shareE t ws = 0 then shareL t ws else []

/-- what Share tells: a row of its own -/
def ShareOut (t : Int) (ws : List Int) (w : World) (e : Ending) (w' : World) : Prop :=
  ∃ v, e = .returned (.tuple #[v, .int .i64 (shareE t ws)]) ∧ w'.ownsRow w.heap.size 2 1 v (shareV t ws).length ((shareV t ws).map (.int .i64)) ∧ Below w.heap.size w w' ∧ (shareE t ws ≠ 0 → v = .slice none 0 0)

theorem share_bad {t : Int} {ws : List Int} {w w' : World} {c : Int} (h : shareE t ws = c) (hc : c ≠ 0) (hb : Below w.heap.size w w') : ShareOut t ws w (.returned (.tuple #[.slice none 0 0, .int .i64 c])) w' := by
  refine ⟨_, by rw [h], ?_, hb, fun _ => rfl⟩
  have : shareV t ws = [] := by unfold shareV; rw [if_neg (by rw [h]; exact hc)]
  rw [this]; exact World.ownsRow_nil _ _ _ _

theorem sum_take_succ {l : List Int} {k : Nat} (h : k < l.length) : (l.take (k + 1)).sum = (l.take k).sum + l.getD k 0 := by
  rw [List.take_succ_eq_append_getElem h, List.sum_append_int]; simp [List.getD_eq_getElem?_getD, h]
theorem posrow_get {ws : List Int} (h : PosRow ws) {k : Nat} (hk : k < ws.length) : 0 ≤ ws.getD k 0 ∧ ws.getD k 0 ≤ 4294967295 := by
  have : ws.getD k 0 = ws[k] := by simp [List.getD_eq_getElem?_getD, hk]
  rw [this]; exact h _ (List.getElem_mem hk)
theorem take_sum_bd {ws : List Int} (h : PosRow ws) (k : Nat) : 0 ≤ (ws.take k).sum ∧ (ws.take k).sum ≤ (ws.take k).length * 4294967295 := by
  have h' : ∀ x ∈ ws.take k, 0 ≤ x ∧ x ≤ 4294967295 := fun x hx => h x (List.mem_of_mem_take hx)
  refine ⟨sum_nonneg _ (fun x hx => (h' x hx).1), ?_⟩
  have := sum_le (fun x : Int => x) (fun _ => 4294967295) (ws.take k) (fun x hx => (h' x hx).2)
  rw [sum_const, List.map_id'] at this; exact this
/-- of positive weights a sum that is not greater is a part of the whole -/
theorem take_sum_le {ws : List Int} (h : PosRow ws) (k : Nat) : (ws.take k).sum ≤ ws.sum := by
  conv => rhs; rw [← List.take_append_drop k ws, List.sum_append_int]
  have := sum_nonneg (ws.drop k) (fun x hx => (h x (List.mem_of_mem_drop hx)).1)
  omega

set_option maxHeartbeats 400000 in
theorem share_long (t : Int) (ws : List Int) (a : Option Addr) (cap : Nat) (w : World) (hl : ws.length ≤ 9223372036854775807) (h : 64 < ws.length) :
    Calls Try.prog 14 #[.int .i64 t, .slice a ws.length cap] w (ShareOut t ws w) := by
  have F := hid (show shareE t ws = 2 by unfold shareE; rw [if_pos h])
  have h' : (64 : Int) < (ws.length : Int) := by omega
  go_enter Try.func14, Try.ntmps14
  go_wp2
  go_ret2
  exact share_bad F.out (by decide) (Below.refl _ _)

set_option maxHeartbeats 1000000 in
theorem share_none (t : Int) (ws : List Int) (a : Option Addr) (cap : Nat) (w : World) (hr : Row w a (ws.map (.int .u32))) (hp : PosRow ws) (h : ws.length ≤ 64) (hbad : shareE t ws ≠ 0) :
    Calls Try.prog 14 #[.int .i64 t, .slice a ws.length cap] w (ShareOut t ws w) := by
  have Hr := hid hr
  have HP : Aside (PosRow ws) := hp
  have HB := hid hbad
  clear hr hp hbad
  have h' : ¬ (64 : Int) < (ws.length : Int) := by omega
  go_enter Try.func14, Try.ntmps14
  go_wp2
  go_loop [6, 24] (fun s i => ∃ (k : Nat) (x : Int), k ≤ ws.length ∧ i = .int .i64 k ∧ s = .int .i64 x ∧ Hid (x = (ws.take k).sum) ∧ 0 ≤ x ∧ x ≤ k * 4294967295) (fun _ i => ws.length - (intOf i).toNat)
  case atStart => exact ⟨0, 0, Nat.zero_le _, rfl, rfl, hid (by simp), by omega, by omega⟩
  case round =>
    obtain ⟨k, s, hk, rfl, rfl, hs, hs0, hs1⟩ := hrel
    by_cases hlt : k < ws.length
    · obtain ⟨b, off, rfl, hc⟩ := Hr.out.int k hlt
      have hx := posrow_get HP.out hlt
      generalize hxe : ws.getD k 0 = x at *
      have HX := hid hxe
      clear hxe
      go_wp2
      go_round
      case rel => exact ⟨k + 1, s + x, by omega, by go_num, rfl, hid (by rw [sum_take_succ hlt, ← hs.out, HX.out]), by omega, by omega⟩
      case measure => simp [intOf]; omega
    · obtain rfl : k = ws.length := by omega
      have hsum : s = ws.sum := by rw [hs.out, List.take_length]
      have HS := hid hsum
      clear hs hsum hk hlt
      by_cases hz : s = 0
      · subst hz
        have F := hid (show shareE t ws = 60 by unfold shareE; rw [if_neg (by omega), if_pos HS.out.symm])
        go_wp2
        go_ret2
        exact share_bad F.out (by decide) (Below.refl _ _)
      · have hz' : (s == 0) = false := by simpa using hz
        have hne : ws.sum ≠ 0 := by rw [← HS.out]; exact hz
        have F := hid (show shareE t ws = 7 by
          have hb := HB.out
          unfold shareE at hb ⊢
          rw [if_neg (by omega), if_neg hne] at hb ⊢
          split at hb
          · simp at hb
          · rename_i hn; rw [if_neg hn])
        have hm : t < 0 ∨ 0 ≤ t ∧ mayI t = false := by
          rcases Int.lt_or_le t 0 with k | k
          · exact .inl k
          · refine .inr ⟨k, ?_⟩
            cases hm : mayI t with
            | false => rfl
            | true =>
              have hb := HB.out
              unfold shareE at hb
              rw [if_neg (by omega), if_neg hne, if_pos ⟨k, (mayI_of hm).2⟩] at hb
              exact absurd rfl hb
        clear hz hne
        rcases hm with hm | ⟨hm, hm2⟩
        · have hd : decide (t < 0) = true := decide_eq_true hm
          go_wp2
          go_ret2
          exact share_bad F.out (by decide) (Below.refl _ _)
        · have hd : decide (t < 0) = false := decide_eq_false (by omega)
          have he : (errI t != 0) = true := by simp [errI, hm2]
          go_wp2_with fail
          refine (check_any _ _).mono ?_
          rintro e w1 ⟨rfl, hb1⟩
          go_wp2
          go_ret2
          exact share_bad F.out (by decide) hb1
end Go.Proofs.Ytijldpkchmpjkaa
