/- TICKET 7: copies of lists, sales of one's own, whether two sales are alike, what is given. -/
import Derived.Test.YtijldpkchmpjkaaTick6
namespace Go.Proofs.Ytijldpkchmpjkaa
open Go.RowKit Go.Lib Go.Tk

theorem legrow : (Try.prog.info? 52).map (fun i => (i.zero, i.size, i.bytes)) = some (some (.agg #[.int .u8 0, .int .u16 0, .int .u32 0]), 3, 8) := by kernel_rfl
theorem taxrow : (Try.prog.info? 60).map (fun i => (i.zero, i.size, i.bytes)) = some (some (.agg #[.string ByteArray.empty, .int .i64 0]), 2, 24) := by kernel_rfl

/-- a copy of a list, in new memory -/
def CopyOf (cells : List Value) (n : Nat) (w : World) (e : Ending) (w' : World) : Prop :=
  ∃ a c, e = .returned (.slice a n c) ∧ Row w' a cells ∧ (a = none → c = 0) ∧ (∀ x, a = some x → w.heap.size ≤ x.block) ∧ Below w.heap.size w w'

theorem owns_slice {w : World} {base : Nat} {E : TypeId} {size n : Nat} {v : Value} {xs : List Value} (h : w.ownsRow base E size v n xs) : ∃ a c, v = .slice a n c ∧ Row w a xs ∧ (a = none → c = 0) ∧ (∀ x, a = some x → base ≤ x.block) := by
  obtain ⟨hl, h1 | ⟨g, cap, cur, hv, h2⟩⟩ := h
  · obtain ⟨rfl, rfl⟩ := h1
    have : xs = [] := List.length_eq_zero_iff.1 (by simpa using hl)
    subst this
    exact ⟨none, 0, rfl, Row.nil, fun _ => rfl, fun x h => by cases h⟩
  · subst hv
    obtain ⟨a, c, hv, hr, _⟩ := row_of_owns (w := w) (base := base) (e := E) (size := size) (v := .slice (some ⟨g, 0, none⟩) n cap) ⟨hl, .inr ⟨g, cap, cur, rfl, h2⟩⟩
    cases hv
    exact ⟨_, _, rfl, hr, (fun h => by cases h), fun x h => by cases h; exact h2.1⟩
theorem owns_copy {w w' : World} {E : TypeId} {size n : Nat} {v : Value} {xs : List Value} (h : w'.ownsRow w.heap.size E size v n xs) (hb : Below w.heap.size w w') : CopyOf xs n w (.returned v) w' := by
  obtain ⟨a, c, rfl, hr, hn, hx⟩ := owns_slice h
  exact ⟨a, c, rfl, hr, hn, hx, hb⟩

set_option maxRecDepth 100000 in
set_option maxHeartbeats 1000000 in
theorem cloneLeg_any (l : List Leg) (a : Option Addr) (n cap : Nat) (w : World) (hn : l.length = n) (hc : a = none → cap = 0) (hr : Row w a (cellsL encLeg l)) (hl : n ≤ 1000) :
    Calls Try.prog 42 #[.slice a n cap] w (CopyOf (cellsL encLeg l) n w) := by
  have HI := hid legrow
  have hq := fun (w : World) (a : Option Addr) (n c : Nat) => Lib.run_eql_slice_nil (P := Try.prog) w 46 52 a n c 0 0 Try.underlying46
  cases a with
  | none =>
    have hn0 : l = [] := by
      rcases l with _ | ⟨x, r⟩
      · rfl
      · obtain ⟨b, off, h, _⟩ := hr 0 (by simp [cellsL, encLeg]); cases h
    subst hn0
    subst hn
    have hc0 := hc rfl
    subst hc0
    clear hr hc
    go_enter Try.func42, Try.ntmps42
    go_wp2
    go_ret
    exact ⟨none, 0, rfl, Row.nil, fun _ => rfl, (fun x h => by cases h), Below.refl _ _⟩
  | some ad =>
    have Hr := hid hr
    have hn2 := hid hn
    clear hr hc hn
    have hlen : (cellsL encLeg l).length = n * 3 := by rw [cellsL_len encLeg_len, hn2.out]
    have HL := hid hlen
    clear hlen
    go_enter Try.func42, Try.ntmps42
    go_wp2_with (at_builtin; refine wpList_append_row_at rfl _ _ 46 rfl w.heap.size 52 (.agg #[.int .u8 0, .int .u16 0, .int .u32 0]) 3 8 Try.underlying46 HI.out rfl (by decide) _ 0 [] rfl (World.ownsRow_lit (base := w.heap.size) (e := 52) (size := 3) w #[] 0 (Nat.le_refl _) (by unfold maxLen; omega) rfl) (some ad) n cap (cellsL encLeg l) rfl (by simp) (Hr.out.kept (below_alloc _ _)) HL.out (cellsL_one encLeg_one l) (by unfold maxLen; omega) (by omega) (by simp) ?_; intro v1 w3 ho1 hg1 hat1)
    have hg1' : (w.alloc (.cells #[] 52)).grownBy w3 (some w.heap.size) := hg1
    have ho1' : w3.ownsRow w.heap.size 52 3 v1 n (cellsL encLeg l) := by simpa using ho1
    have hb3 : Below w.heap.size w w3 := (below_alloc w _).grown hg1' (by simp) (fun g e => by cases e; exact Nat.le_refl _)
    clear hg1 hg1' hat1 ho1
    go_wp2
    go_ret
    exact owns_copy ho1' hb3

set_option maxRecDepth 100000 in
set_option maxHeartbeats 1000000 in
theorem cloneTax_any (l : List Tax) (a : Option Addr) (n cap : Nat) (w : World) (hn : l.length = n) (hc : a = none → cap = 0) (hr : Row w a (cellsL encTax l)) (hl : n ≤ 1000) :
    Calls Try.prog 43 #[.slice a n cap] w (CopyOf (cellsL encTax l) n w) := by
  have HI := hid taxrow
  have hq := fun (w : World) (a : Option Addr) (n c : Nat) => Lib.run_eql_slice_nil (P := Try.prog) w 47 60 a n c 0 0 Try.underlying47
  cases a with
  | none =>
    have hn0 : l = [] := by
      rcases l with _ | ⟨x, r⟩
      · rfl
      · obtain ⟨b, off, h, _⟩ := hr 0 (by simp [cellsL, encTax]); cases h
    subst hn0
    subst hn
    have hc0 := hc rfl
    subst hc0
    clear hr hc
    go_enter Try.func43, Try.ntmps43
    go_wp2
    go_ret
    exact ⟨none, 0, rfl, Row.nil, fun _ => rfl, (fun x h => by cases h), Below.refl _ _⟩
  | some ad =>
    have Hr := hid hr
    have hn2 := hid hn
    clear hr hc hn
    have hlen : (cellsL encTax l).length = n * 2 := by rw [cellsL_len encTax_len, hn2.out]
    have HL := hid hlen
    clear hlen
    go_enter Try.func43, Try.ntmps43
    go_wp2_with (at_builtin; refine wpList_append_row_at rfl _ _ 47 rfl w.heap.size 60 (.agg #[.string ByteArray.empty, .int .i64 0]) 2 24 Try.underlying47 HI.out rfl (by decide) _ 0 [] rfl (World.ownsRow_lit (base := w.heap.size) (e := 60) (size := 2) w #[] 0 (Nat.le_refl _) (by unfold maxLen; omega) rfl) (some ad) n cap (cellsL encTax l) rfl (by simp) (Hr.out.kept (below_alloc _ _)) HL.out (cellsL_one encTax_one l) (by unfold maxLen; omega) (by omega) (by simp) ?_; intro v1 w3 ho1 hg1 hat1)
    have hg1' : (w.alloc (.cells #[] 60)).grownBy w3 (some w.heap.size) := hg1
    have ho1' : w3.ownsRow w.heap.size 60 2 v1 n (cellsL encTax l) := by simpa using ho1
    have hb3 : Below w.heap.size w w3 := (below_alloc w _).grown hg1' (by simp) (fun g e => by cases e; exact Nat.le_refl _)
    clear hg1 hg1' hat1 ho1
    go_wp2
    go_ret
    exact owns_copy ho1' hb3

def greatB (s : SaleV) : Bool := decide (60 < s.legs.length) || decide (60 < s.taxes.length) || decide (200 < s.name.size)
set_option maxHeartbeats 1000000 in
theorem great_any (s : SaleV) (A : SaleA) (w : World) (h1 : s.legs.length ≤ maxLen) (h2 : s.taxes.length ≤ maxLen) (h3 : s.name.size ≤ maxLen) :
    Calls Try.prog 21 #[saleAgg s A] w fun e w' => e = .returned (.bool (greatB s)) ∧ Below w.heap.size w w' := by
  unfold maxLen at h1 h2 h3
  obtain ⟨la, lc, ta, tc⟩ := A
  unfold saleAgg
  dsimp only
  have F := hid (show greatB s = (decide (60 < s.legs.length) || decide (60 < s.taxes.length) || decide (200 < s.name.size)) from rfl)
  generalize s.name = nm at *
  generalize s.legs.length = nl at *
  generalize s.taxes.length = nt at *
  by_cases k1 : 60 < nl
  · have d1 : decide ((nl : Int) > 60) = true := decide_eq_true (by omega)
    have G := hid (show greatB s = true by rw [F.out]; simp [k1])
    go_enter Try.func21, Try.ntmps21
    go_wp2
    go_ret
    exact ⟨ret_bool G.out.symm, below_alloc _ _⟩
  · have d1 : decide ((nl : Int) > 60) = false := decide_eq_false (by omega)
    by_cases k2 : 60 < nt
    · have d2 : decide ((nt : Int) > 60) = true := decide_eq_true (by omega)
      have G := hid (show greatB s = true by rw [F.out]; simp [k2])
      go_enter Try.func21, Try.ntmps21
      go_wp2
      go_ret
      exact ⟨ret_bool G.out.symm, below_alloc _ _⟩
    · have d2 : decide ((nt : Int) > 60) = false := decide_eq_false (by omega)
      by_cases k3 : 200 < nm.size
      · have d3 : decide ((nm.size : Int) > 200) = true := decide_eq_true (by omega)
        have G := hid (show greatB s = true by rw [F.out]; simp [k3])
        go_enter Try.func21, Try.ntmps21
        go_wp2
        go_ret
        exact ⟨ret_bool G.out.symm, below_alloc _ _⟩
      · have d3 : decide ((nm.size : Int) > 200) = false := decide_eq_false (by omega)
        have G := hid (show greatB s = false by rw [F.out]; simp [k1, k2, k3])
        go_enter Try.func21, Try.ntmps21
        go_wp2
        go_ret
        exact ⟨ret_bool G.out.symm, below_alloc _ _⟩

def giveV (v p : Int) : Int := if v < 0 ∨ p < 0 then 0 else v - min v p
def giveK (v p : Int) : Int := if v < 0 ∨ p < 0 then 0 else min v p
set_option maxHeartbeats 1000000 in
theorem give_any (v p : Int) (w : World) (hv : v ≤ 9223372036854775807) (hp : p ≤ 9223372036854775807) :
    Calls Try.prog 28 #[.int .i64 v, .int .i64 p] w fun e w' => e = .returned (.tuple #[.int .i64 (giveV v p), .int .i64 (giveK v p)]) ∧ w = w' := by
  by_cases h1 : v < 0
  · have F := hid (show (giveV v p, giveK v p) = (0, 0) by unfold giveV giveK; rw [if_pos (.inl h1), if_pos (.inl h1)])
    have d1 : decide (v < 0) = true := decide_eq_true h1
    go_enter Try.func28, Try.ntmps28
    go_wp2
    go_ret2
    exact ⟨ret_i2 F.out.symm, rfl⟩
  · have d1 : decide (v < 0) = false := decide_eq_false h1
    by_cases h2 : p < 0
    · have F := hid (show (giveV v p, giveK v p) = (0, 0) by unfold giveV giveK; rw [if_pos (.inr h2), if_pos (.inr h2)])
      have d2 : decide (p < 0) = true := decide_eq_true h2
      go_enter Try.func28, Try.ntmps28
      go_wp2
      go_ret2
      exact ⟨ret_i2 F.out.symm, rfl⟩
    · have d2 : decide (p < 0) = false := decide_eq_false h2
      have F := hid (show (giveV v p, giveK v p) = (v - min v p, min v p) by unfold giveV giveK; rw [if_neg (by omega), if_neg (by omega)])
      have q0 : 0 ≤ v := by omega
      have q1 : 0 ≤ p := by omega
      have q2 : 0 ≤ v - min v p := by omega
      have q3 : 0 ≤ min v p := by omega
      have q4 : min v p ≤ v := by omega
      clear h1 h2
      go_enter Try.func28, Try.ntmps28
      go_wp2
      all_goals
        go_ret2
        exact ⟨ret_i2 (by rw [F.out, Prod.mk.injEq]; omega), rfl⟩
end Go.Proofs.Ytijldpkchmpjkaa
