/- POST 2: an acknowledgement at a box. -/
import Derived.Test.YtfnneghddndeiaaPost1
import Derived.BigQuiet
import Derived.Deep.QuietTactic
import Derived.Deep.RegionHeld3
namespace Go.Proofs.Ytfnneghddndeiaa
open Go.RowKit Go.Lib Go.Tk Go.Shelf
attribute [-go_sem] loadCellsFrom
theorem row_drop {w : World} {g off : Nat} {vs : List Value} (h : Row w (some ⟨g, off, none⟩) vs) (j : Nat) : Row w (some (Addr.add ⟨g, off, none⟩ j)) (vs.drop j) := by
  intro i hi
  rw [List.length_drop] at hi
  obtain ⟨b, o, hb, hc⟩ := h (j + i) (by omega)
  cases hb
  refine ⟨g, off + j, ?_, ?_⟩
  · unfold Addr.add
    split
    · rename_i e; subst e; rfl
    · rfl
  · rw [show off + j + i = off + (j + i) by omega, hc]
    simp [List.getD_eq_getElem?_getD]
theorem cellsL_drop {α : Type} {enc : α → List Value} {size : Nat} (hk : ∀ x, (enc x).length = size) : ∀ (l : List α) (j : Nat), (cellsL enc l).drop (j * size) = cellsL enc (l.drop j)
  | l, 0 => by simp
  | [], j + 1 => by simp [cellsL]
  | x :: l, j + 1 => by
    have e : cellsL enc (x :: l) = enc x ++ cellsL enc l := by simp [cellsL]
    rw [e, List.drop_append, hk x, List.drop_eq_nil_of_le (by rw [hk x, Nat.add_mul]; omega), List.nil_append, show (j + 1) * size - size = j * size by rw [Nat.add_mul, Nat.one_mul]; omega, cellsL_drop hk l j]
    rfl
set_option maxRecDepth 100000 in
set_option maxHeartbeats 4000000 in
theorem ack1_any (base b cb : Nat) (v : Value) (X : BoxV) (k : Int) (w : World) (h : BoxIn w base b v X) (ok : BoxOk X) (hc : Box w cb #[.int .u64 k]) (k0 : 0 ≤ k) (k1 : k ≤ 18446744073709551615) :
    Calls Try.prog 22 #[.pointer (some ⟨b, 0, none⟩), .pointer (some ⟨cb, 0, none⟩)] w (BoxDid w base b v (ackX X k)) := by
  obtain ⟨va, vc, hv, hrow, hn, -⟩ := own_slice h.row
  have hcap : X.wait.length ≤ vc := by
    obtain ⟨-, h | ⟨g, cap, cur, h, -, -, h2, -⟩⟩ := h.row
    · omega
    · rw [hv] at h; cases h; exact h2
  have c0 : w.cell? ⟨b, 0, none⟩ = some v := h.cells.cell 0 rfl
  have c1 : w.cell? ⟨b, 1, none⟩ = some (.int .u64 X.given) := h.cells.cell 1 rfl
  have f0 := h.cells.free 0
  have ck : w.cell? ⟨cb, 0, none⟩ = some (.int .u64 k) := hc.cell 0 rfl
  have lb := h.cells.lt
  have lc := hc.lt
  subst hv
  have HB := hid h
  have HC := hid hc
  have l0 := ok.len
  have l1 := ok.le
  have l2 := ok.hi
  have hw1 : IntKind.u64.wrap (X.wait.length : Int) = X.wait.length := by rw [IntKind.wrap_u64]; omega
  have hw2 : IntKind.u64.wrap (X.given - X.wait.length) = doneX X := by rw [IntKind.wrap_u64]; unfold doneX; omega
  have d0 : 0 ≤ doneX X := by unfold doneX; omega
  have d1 : doneX X + X.wait.length = X.given := by unfold doneX; omega
  generalize hd : doneX X = d at *
  clear h hc ok
  by_cases ha : X.given < k
  · have HX := hid (show ackX X k = (1, X) by unfold ackX; rw [if_pos ha])
    go_enter Try.func22, Try.ntmps22
    go_upto_region 1 with fail
    go_quiet (fail)
    go_upto_region 2 with fail
    go_quiet (fail)
    go_wp2
    go_ret
    rw [HX.out]
    first
      | exact ⟨rfl, _, HB.out.kept (bt (drewN_below _ _) (drewN_below _ _)), .inl rfl, fr_below _ (bt (drewN_below _ _) (drewN_below _ _))⟩
      | exact ⟨rfl, _, HB.out.kept (drewN_below _ _), .inl rfl, fr_below _ (drewN_below _ _)⟩
  by_cases hb : k ≤ d
  · have HX := hid (show ackX X k = (6, X) by unfold ackX; rw [if_neg ha, if_pos (by rw [hd]; exact hb)])
    go_enter Try.func22, Try.ntmps22
    go_upto_region 1 with fail
    go_quiet (fail)
    go_upto_region 2 with fail
    go_quiet (fail)
    go_wp2
    go_ret
    rw [HX.out]
    first
      | exact ⟨rfl, _, HB.out.kept (bt (drewN_below _ _) (drewN_below _ _)), .inl rfl, fr_below _ (bt (drewN_below _ _) (drewN_below _ _))⟩
      | exact ⟨rfl, _, HB.out.kept (drewN_below _ _), .inl rfl, fr_below _ (drewN_below _ _)⟩
  have HX := hid (show ackX X k = (0, ⟨X.wait.drop (k - d).toNat, X.given, X.last⟩) by unfold ackX; rw [if_neg ha, if_neg (by rw [hd]; exact hb), hd])
  go_enter Try.func22, Try.ntmps22
  go_upto_region 1 with fail
  go_quiet (fail)
  go_upto_region 2 with fail
  go_quiet (fail)
  obtain ⟨j, hj⟩ : ∃ j : Nat, k = d + j := ⟨(k - d).toNat, by omega⟩
  subst hj
  have hw3 : IntKind.u64.wrap (d + j - d) = j := by rw [IntKind.wrap_u64]; omega
  have j0 : 0 < j := by omega
  have j1 : j ≤ X.wait.length := by omega
  go_upto_region 6 with fail
  have hva : ∃ g og, va = some ⟨g, og, none⟩ := by
    obtain ⟨b', o', hb', -⟩ := hrow 0 (by rw [cellsL_len encMsg_len]; omega)
    exact ⟨b', o', hb'⟩
  have HR := hid (show Row w (if vc = j then va else Option.map (fun x : Addr => x.add (j * 12)) va) (cellsL encMsg (X.wait.drop j)) by
    obtain ⟨g, og, rfl⟩ := hva
    by_cases hvj : vc = j
    · have : X.wait.drop j = [] := List.drop_eq_nil_of_le (by omega)
      rw [this]; exact Row.nil
    · rw [if_neg hvj, ← cellsL_drop encMsg_len]; exact row_drop hrow _)
  have HN := hid (show (if vc = j then va else Option.map (fun x : Addr => x.add (j * 12)) va) = none → vc - j = 0 by
    obtain ⟨g, og, rfl⟩ := hva
    intro e
    by_cases hvj : vc = j
    · omega
    · rw [if_neg hvj] at e; cases e)
  clear hva
  obtain ⟨A, hA⟩ : ∃ A, (if vc = j then va else Option.map (fun x : Addr => x.add (j * 12)) va) = A := ⟨_, rfl⟩
  rw [hA] at HR HN
  clear hrow
  go_region_with (go_at_call 23; with_reducible (refine (cloneMsg_any (X.wait.drop j) _ _ _ _ (by simp) HN.out (HR.out.kept (drewN_below _ _)) (by omega)).mono ?_); rintro e w5 ⟨v', rfl, ho5, hb5⟩; obtain ⟨a5, c5, rfl, -, -, -⟩ := own_slice ho5; have B5 := bt (drewN_below w _) hb5; have x5 := HB.out.cells.kept B5; have f5 := x5.free 0; have k5 : w5.cell? ⟨b, 0, none⟩ = some (.slice va X.wait.length vc) := x5.cell 0 rfl)
  all_goals
    have ob : w5.ownsRow w.heap.size 44 12 (.slice a5 (X.wait.length - j) c5) (X.wait.length - j) (cellsL encMsg (X.wait.drop j)) := ho5
    have gg : ∀ g, (Value.slice a5 (X.wait.length - j) c5).ownBlock = some g → w.heap.size ≤ g := fun g e => (ob.lt g e).1
    have nb : (Value.slice a5 (X.wait.length - j) c5).ownBlock ≠ some b := fun e => by have := gg _ e; omega
    have D5 := hid (show BoxIn (w5.setCell ⟨b, 0, none⟩ (.slice a5 (X.wait.length - j) c5)) base b (.slice a5 (X.wait.length - j) c5) (ackX X (d + j)).2 ∧ Fr (boxFoot b (.slice va X.wait.length vc)) w (w5.setCell ⟨b, 0, none⟩ (.slice a5 (X.wait.length - j) c5)) by
      rw [HX.out]
      refine ⟨⟨x5.set 0 _, ?_, fun g e h => nb (by rw [e, h]), HB.out.lo⟩, (fr_below _ B5).set b 0 _ (Or.inl rfl)⟩
      rw [show (d + (j : Int) - d).toNat = j by omega, List.length_drop]
      exact (ownsRow_base ob (Nat.le_trans HB.out.lo (Nat.le_of_lt lb))).kept (grownBy_setCell' _ _ _ _) (.inr nb))
    have GG := hid gg
    clear gg nb ob ho5 B5 x5 f5 k5 hb5
    go_wp2
    go_ret
    exact ⟨by rw [HX.out]; rfl, _, D5.out.1, .inr GG.out, D5.out.2⟩
end Go.Proofs.Ytfnneghddndeiaa
