/- TICKET 8: a sale of one's own; whether two sales are alike. -/
import Derived.Test.YtijldpkchmpjkaaTick7
namespace Go.Proofs.Ytijldpkchmpjkaa
open Go.RowKit Go.Lib Go.Tk

/-- a sale of one's own -/
structure OwnedS (w : World) (base : Nat) (s : SaleV) (A : SaleA) : Prop where
  legs : w.ownsRow base 52 3 (.slice A.la s.legs.length A.lc) s.legs.length (cellsL encLeg s.legs)
  taxes : w.ownsRow base 60 2 (.slice A.ta s.taxes.length A.tc) s.taxes.length (cellsL encTax s.taxes)
  apart : Apart (.slice A.la s.legs.length A.lc) (.slice A.ta s.taxes.length A.tc)

theorem OwnedS.at {w : World} {base : Nat} {s : SaleV} {A : SaleA} (h : OwnedS w base s A) : SaleAt w s A := by
  obtain ⟨a, c, e, hr, hn, _⟩ := owns_slice h.legs
  cases e
  obtain ⟨a, c, e, hr2, hn2, _⟩ := owns_slice h.taxes
  cases e
  exact ⟨hr, hr2, hn, hn2⟩
theorem OwnedS.kept {w w' : World} {base : Nat} {s : SaleV} {A : SaleA} (h : OwnedS w base s A) (hb : Below w.heap.size w w') : OwnedS w' base s A :=
  ⟨ownsRow_below h.legs hb, ownsRow_below h.taxes hb, h.apart⟩

def OwnSale (s : SaleV) (w : World) (e : Ending) (w' : World) : Prop := ∃ A, e = .returned (saleAgg s A) ∧ OwnedS w' w.heap.size s A ∧ Below w.heap.size w w'

set_option maxRecDepth 100000 in
set_option maxHeartbeats 2000000 in
theorem own_any (s : SaleV) (A : SaleA) (w : World) (hs : SaleAt w s A) (h1 : s.legs.length ≤ 1000) (h2 : s.taxes.length ≤ 1000) :
    Calls Try.prog 24 #[saleAgg s A] w (OwnSale s w) := by
  obtain ⟨la, lc, ta, tc⟩ := A
  have HL := hid hs.legs
  have HT := hid hs.taxes
  have NL := hid hs.lnil
  have NT := hid hs.tnil
  have HI := hid legrow
  have HJ := hid taxrow
  have HX := hid (cellsL_len encLeg_len s.legs)
  have HY := hid (cellsL_len encTax_len s.taxes)
  have m1 : 0 + s.legs.length ≤ maxLen := by unfold maxLen; omega
  have m2 : 0 + s.taxes.length ≤ maxLen := by unfold maxLen; omega
  clear hs
  dsimp only at HL HT NL NT
  unfold saleAgg
  dsimp only
  obtain ⟨W1, hW1⟩ : ∃ W1, W1 = ((w.alloc (.cells #[.string s.name, .slice la s.legs.length lc, .int .i64 s.fare, .slice ta s.taxes.length tc, .int .i64 s.pen] 49)).alloc (.cells #[.string ByteArray.empty, .slice none 0 0, .int .i64 0, .slice none 0 0, .int .i64 0] 49)) := ⟨_, rfl⟩
  have b1 : Below w.heap.size w W1 := by rw [hW1]; exact ((Below.refl _ _).alloc (Nat.le_refl _) _).alloc (by simp) _
  have z1 : W1.heap.size = w.heap.size + 2 := by rw [hW1]; simp
  have x0 : Box W1 w.heap.size #[.string s.name, .slice la s.legs.length lc, .int .i64 s.fare, .slice ta s.taxes.length tc, .int .i64 s.pen] := by rw [hW1]; exact (Box.new rfl).kept (below_alloc _ _)
  have y0 : Box W1 (w.heap.size + 1) #[.string ByteArray.empty, .slice none 0 0, .int .i64 0, .slice none 0 0, .int .i64 0] := by rw [hW1]; exact Box.new (by simp)
  have B1 := hid b1
  have Z1 := hid z1
  have X0 := hid x0
  have Y0 := hid y0
  have HW := hid hW1
  clear b1 z1 x0 y0 hW1
  go_enter Try.func24, Try.ntmps24
  go_wp2_with (first
    | (at_builtin; refine wpList_append_row_at rfl (.const (.slice none 0 0)) (.tmp 4) 46 rfl (w.heap.size + 2) 52 (.agg #[.int .u8 0, .int .u16 0, .int .u32 0]) 3 8 Try.underlying46 HI.out rfl (by decide) (.slice none 0 0) 0 [] rfl (World.ownsRow_nil _ _ _ _) la s.legs.length lc (cellsL encLeg s.legs) rfl NL.out (by have := HL.out.kept B1.out; rw [HW.out] at this; exact this) HX.out (cellsL_one encLeg_one s.legs) m1 (by omega) (by simp) ?_; intro v1 w3 ho1 hg1 hat1; obtain ⟨a1, c1, rfl, hr1, hn1, -⟩ := owns_slice ho1; have b3 : Below W1.heap.size W1 w3 := (by have := below_none hg1 rfl; rw [HW.out]; exact this); have x3 := X0.out.kept b3; have k1 := x3.cell 1 rfl; have k3 := x3.cell 3 rfl; have f1 := x3.free 1; have X3 := hid x3; clear x3)
    | (at_builtin; refine wpList_append_row_at rfl (.const (.slice none 0 0)) (.tmp 8) 47 rfl (w.heap.size + 2) 60 (.agg #[.string ByteArray.empty, .int .i64 0]) 2 24 Try.underlying47 HJ.out rfl (by decide) (.slice none 0 0) 0 [] rfl (World.ownsRow_nil _ _ _ _) ta s.taxes.length tc (cellsL encTax s.taxes) rfl NT.out (HT.out.kept ((B1.out.trans (b3.mono (by have := Z1.out; omega))).setCell (Nat.le_refl _) _)) HY.out (cellsL_one encTax_one s.taxes) m2 (by omega) (by have := b3.size; have := Z1.out; simp; omega) ?_; intro v2 w4 ho2 hg2 hat2; obtain ⟨a2, c2, rfl, hr2, hn2, -⟩ := owns_slice ho2; have b4 := below_none hg2 rfl; have x4 := (X3.out.set 1 (.slice a1 s.legs.length c1)).kept b4; have k0 := x4.cell 0 rfl; have k1 := x4.cell 1 rfl; have k2 := x4.cell 2 rfl; have k3 := x4.cell 3 rfl; have k4 := x4.cell 4 rfl; have f3 := x4.free 3; have y4 := (((Y0.out.kept b3).other (b' := w.heap.size) (i := 1) (u := .slice a1 s.legs.length c1) (by omega)).kept b4); have g0 := y4.cell 0 rfl; have g1 := y4.cell 1 rfl; have g2 := y4.cell 2 rfl; have g3 := y4.cell 3 rfl; have g4 := y4.cell 4 rfl; have e0 := y4.free 0; have e1 := y4.free 1; have e2 := y4.free 2; have e3 := y4.free 3; have e4 := y4.free 4))
  clear k0 k1 k2 k3 k4 f3 g0 g1 g2 g3 g4 e0 e1 e2 e3 e4
  have o1 : w3.ownsRow (w.heap.size + 2) 52 3 (.slice a1 s.legs.length c1) s.legs.length (cellsL encLeg s.legs) := by simpa using ho1
  have o2 : w4.ownsRow (w.heap.size + 2) 60 2 (.slice a2 s.taxes.length c2) s.taxes.length (cellsL encTax s.taxes) := by simpa using ho2
  have o3 : (w3.setCell ⟨w.heap.size, 1, none⟩ (.slice a1 s.legs.length c1)).ownsRow (w.heap.size + 2) 52 3 (.slice a1 s.legs.length c1) s.legs.length (cellsL encLeg s.legs) := ownsRow_setOld o1 (by omega)
  have ap : Apart (.slice a2 s.taxes.length c2) (.slice a1 s.legs.length c1) := apart_grown o3 (Apart.nil _) (by simpa using hat2)
  have o4 := ownsRow_below o3 b4
  have bA : Below w.heap.size w w4 := ((B1.out.trans (b3.mono (by have := Z1.out; omega))).setCell (Nat.le_refl _) _).trans (b4.mono (by have := b3.size; have := Z1.out; simp; omega))
  clear ho1 ho2 hg1 hg2 hat1 hat2 hr1 hr2 b4 b3 X3 o1 o3 HW hn1 hn2
  have yf := (((((y4.other (b' := w.heap.size) (i := 3) (u := .slice a2 s.taxes.length c2) (by omega)).set 0 (.string s.name)).set 1 (.slice a1 s.legs.length c1)).set 2 (.int .i64 s.fare)).set 3 (.slice a2 s.taxes.length c2)).set 4 (.int .i64 s.pen)
  have k0 := yf.cell 0 rfl
  have k1 := yf.cell 1 rfl
  have k2 := yf.cell 2 rfl
  have k3 := yf.cell 3 rfl
  have k4 := yf.cell 4 rfl
  have q1 := ownsRow_base (ownsRow_setOld (b := w.heap.size + 1) (o := 4) (u := .int .i64 s.pen) (ownsRow_setOld (b := w.heap.size + 1) (o := 3) (u := .slice a2 s.taxes.length c2) (ownsRow_setOld (b := w.heap.size + 1) (o := 2) (u := .int .i64 s.fare) (ownsRow_setOld (b := w.heap.size + 1) (o := 1) (u := .slice a1 s.legs.length c1) (ownsRow_setOld (b := w.heap.size + 1) (o := 0) (u := .string s.name) (ownsRow_setOld (b := w.heap.size) (o := 3) (u := .slice a2 s.taxes.length c2) o4 (by omega)) (by omega)) (by omega)) (by omega)) (by omega)) (by omega)) (Nat.le_add_right w.heap.size 2)
  have q2 := ownsRow_base (ownsRow_setOld (b := w.heap.size + 1) (o := 4) (u := .int .i64 s.pen) (ownsRow_setOld (b := w.heap.size + 1) (o := 3) (u := .slice a2 s.taxes.length c2) (ownsRow_setOld (b := w.heap.size + 1) (o := 2) (u := .int .i64 s.fare) (ownsRow_setOld (b := w.heap.size + 1) (o := 1) (u := .slice a1 s.legs.length c1) (ownsRow_setOld (b := w.heap.size + 1) (o := 0) (u := .string s.name) (ownsRow_setOld (b := w.heap.size) (o := 3) (u := .slice a2 s.taxes.length c2) o2 (by omega)) (by omega)) (by omega)) (by omega)) (by omega)) (by omega)) (Nat.le_add_right w.heap.size 2)
  have q3 : Below w.heap.size w ((((((w4.setCell ⟨w.heap.size, 3, none⟩ (.slice a2 s.taxes.length c2)).setCell ⟨w.heap.size + 1, 0, none⟩ (.string s.name)).setCell ⟨w.heap.size + 1, 1, none⟩ (.slice a1 s.legs.length c1)).setCell ⟨w.heap.size + 1, 2, none⟩ (.int .i64 s.fare)).setCell ⟨w.heap.size + 1, 3, none⟩ (.slice a2 s.taxes.length c2)).setCell ⟨w.heap.size + 1, 4, none⟩ (.int .i64 s.pen)) := (((((bA.setCell (Nat.le_refl _) _).setCell (Nat.le_succ _) _).setCell (Nat.le_succ _) _).setCell (Nat.le_succ _) _).setCell (Nat.le_succ _) _).setCell (Nat.le_succ _) _
  clear o2 o4 bA yf y4 x4 X0 Y0
  generalize ((((((w4.setCell ⟨w.heap.size, 3, none⟩ (.slice a2 s.taxes.length c2)).setCell ⟨w.heap.size + 1, 0, none⟩ (.string s.name)).setCell ⟨w.heap.size + 1, 1, none⟩ (.slice a1 s.legs.length c1)).setCell ⟨w.heap.size + 1, 2, none⟩ (.int .i64 s.fare)).setCell ⟨w.heap.size + 1, 3, none⟩ (.slice a2 s.taxes.length c2)).setCell ⟨w.heap.size + 1, 4, none⟩ (.int .i64 s.pen)) = wf at *
  exact bodyPost_ret (v := .agg #[.string s.name, .slice a1 s.legs.length c1, .int .i64 s.fare, .slice a2 s.taxes.length c2, .int .i64 s.pen]) (by simp [results, Try.results24, go_sem, k0, k1, k2, k3, k4]) rfl ⟨⟨a1, c1, a2, c2⟩, rfl, ⟨q1, q2, ap.symm⟩, q3⟩
end Go.Proofs.Ytijldpkchmpjkaa
