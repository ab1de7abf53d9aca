/- TICKET 4: sales: their price, copies of lists, whether two are alike. -/
import Derived.Test.YtijldpkchmpjkaaTick3
import Derived.Test.YtijldpkchmpjkaaMoneyOrder
namespace Go.Proofs.Ytijldpkchmpjkaa
open Go.RowKit Go.Lib Go.Tk

structure SaleV where
  name : ByteArray
  legs : List Leg
  fare : Int
  taxes : List Tax
  pen : Int
deriving DecidableEq, Inhabited
/-- where its lists lie -/
structure SaleA where
  la : Option Addr
  lc : Nat
  ta : Option Addr
  tc : Nat
def LegOk (l : Leg) : Prop := (0 ≤ l.c ∧ l.c ≤ 255) ∧ (0 ≤ l.f ∧ l.f ≤ 65535) ∧ (0 ≤ l.x ∧ l.x ≤ 4294967295)
def TaxOk (t : Tax) : Prop := t.code.size ≤ maxLen ∧ (-9223372036854775808 ≤ t.amt ∧ t.amt ≤ 9223372036854775807)
structure SaleOk (s : SaleV) : Prop where
  name : s.name.size ≤ maxLen
  legs : ∀ l ∈ s.legs, LegOk l
  taxes : ∀ t ∈ s.taxes, TaxOk t
  fare : -9223372036854775808 ≤ s.fare ∧ s.fare ≤ 9223372036854775807
  pen : -9223372036854775808 ≤ s.pen ∧ s.pen ≤ 9223372036854775807
  nl : s.legs.length ≤ 1000
  nt : s.taxes.length ≤ 1000
structure SaleAt (w : World) (s : SaleV) (A : SaleA) : Prop where
  legs : Row w A.la (cellsL encLeg s.legs)
  taxes : Row w A.ta (cellsL encTax s.taxes)
  lnil : A.la = none → A.lc = 0
  tnil : A.ta = none → A.tc = 0
theorem SaleAt.kept {w w' : World} {s : SaleV} {A : SaleA} (h : SaleAt w s A) (hb : Below w.heap.size w w') : SaleAt w' s A := ⟨h.legs.kept hb, h.taxes.kept hb, h.lnil, h.tnil⟩
/-- a sale as a value -/
def saleAgg (s : SaleV) (A : SaleA) : Value := .agg #[.string s.name, .slice A.la s.legs.length A.lc, .int .i64 s.fare, .slice A.ta s.taxes.length A.tc, .int .i64 s.pen]
def priceL (s : SaleV) : List Int := s.fare :: s.taxes.map (·.amt)

theorem i64row3 : (Try.prog.info? 2).map (fun i => (i.zero, i.size, i.bytes)) = some (some (.int .i64 0), 1, 8) := by kernel_rfl

theorem price_snoc {s : SaleV} {k : Nat} (h : k < s.taxes.length) : (s.fare :: (s.taxes.take (k + 1)).map (·.amt)) = (s.fare :: (s.taxes.take k).map (·.amt)) ++ [s.taxes[k].amt] := by
  rw [List.take_succ_eq_append_getElem h, List.map_append]; rfl

set_option maxHeartbeats 2000000 in
theorem price_any (s : SaleV) (A : SaleA) (w : World) (hs : SaleAt w s A) (ok : SaleOk s) :
    Calls Try.prog 26 #[saleAgg s A] w fun e w' => e = .returned (.tuple #[.int .i64 (sumFrom 0 (priceL s)).1, .int .i64 (sumFrom 0 (priceL s)).2]) ∧ Below w.heap.size w w' := by
  have hr := hid hs.taxes
  have OK : Aside (SaleOk s) := ok
  have hnt := ok.nt
  clear hs ok
  obtain ⟨la, lc, ta, tc⟩ := A
  unfold saleAgg
  dsimp only at hr ⊢
  have HI := hid i64row3
  go_enter Try.func26, Try.ntmps26
  go_wp2
  go_loopw [4, 6, 13] (fun s4 _ s13 wr => ∃ (k : Nat) (v : Value), k ≤ s.taxes.length ∧ s13 = .int .i64 k ∧ s4 = v ∧ Aside (wr.ownsRow w.heap.size 2 1 v (k + 1) ((s.fare :: (s.taxes.take k).map (·.amt)).map (.int .i64))) ∧ Aside (Below w.heap.size w wr)) (fun _ _ i _ => s.taxes.length - (intOf i).toNat)
  case atStart =>
    refine ⟨0, _, Nat.zero_le _, rfl, rfl, ?_, ((Below.refl _ _).alloc (Nat.le_refl _) _).alloc (by simp) _⟩
    have := World.ownsRow_lit (base := w.heap.size) (e := 2) (size := 1) (w.alloc (.cells #[.string s.name, .slice la s.legs.length lc, .int .i64 s.fare, .slice ta s.taxes.length tc, .int .i64 s.pen] 49)) #[.int .i64 s.fare] 1 (by simp) (by unfold maxLen; omega) rfl
    show World.ownsRow _ _ _ _ _ _ _
    simpa using this
  case round =>
    obtain ⟨k, v, hk, rfl, rfl, O1, B1⟩ := hrel
    by_cases hlt : k < s.taxes.length
    · obtain ⟨b, off, rfl, c1, c2⟩ := tax_at (hr.out.kept B1.out) hlt
      have HSN := hid (price_snoc hlt)
      generalize s.taxes[k] = x at *
      have hm1 : k + 1 + 1 ≤ maxLen := by unfold maxLen; omega
      have hm8 : (k + 1 + 1) * 8 ≤ 140737488355328 := by omega
      have hbs := B1.out.size
      go_wp2_with (at_builtin; refine wpList_append_row_at rfl _ _ 27 rfl w.heap.size 2 (.int .i64 0) 1 8 Try.underlying27 HI.out rfl (by decide) _ (k + 1) _ rfl (World.ownsRow.alloc (World.ownsRow.alloc O1.out _) _) _ 1 1 [.int .i64 x.amt] rfl (by simp) (row_new (by simp)) rfl (by simp [Value.oneCell']) hm1 hm8 (by simp; omega) ?_; intro v1 w3 ho1 hg1 hat1)
      have hg1' : ((wr.alloc (.cells #[.string x.code, .int .i64 x.amt] 60)).alloc (.cells #[.int .i64 x.amt] 2)).grownBy w3 u4.ownBlock := hg1
      have B3 : Aside (Below w.heap.size w w3) := ((B1.out.alloc B1.out.size _).alloc (by have := B1.out.size; simp; omega) _).grown hg1' (by have := B1.out.size; simp; omega) (fun g e => (World.ownsRow.lt O1.out g e).1)
      have O3 : Aside (w3.ownsRow w.heap.size 2 1 v1 (k + 1 + 1) ((s.fare :: (s.taxes.take (k + 1)).map (·.amt)).map (.int .i64))) := by
        show World.ownsRow _ _ _ _ _ _ _
        rw [HSN.out, List.map_append]; exact ho1
      clear hg1 hg1' hat1 ho1 O1 B1 c1 c2
      go_roundw
      case measure => simp [intOf]; omega
      case rel => exact ⟨k + 1, v1, by omega, by go_num, rfl, O3, B3⟩
    · obtain rfl : k = s.taxes.length := by omega
      obtain ⟨a', cap', hv, hr', -⟩ := row_of_owns (show wr.ownsRow w.heap.size 2 1 u4 (s.taxes.length + 1) _ from O1.out)
      subst hv
      have HR := hid (show Row wr a' ((priceL s).map (.int .i64)) by unfold priceL; rw [List.take_length] at hr'; exact hr')
      clear hr' O1
      go_wp2_with fail
      refine (sum_anyN a' (s.taxes.length + 1) cap' (priceL s) _ (by simp [priceL]) HR.out (by simp [priceL]; omega)).mono ?_
      rintro e w2 ⟨rfl, hb2⟩
      go_wp2
      go_ret2
      exact ⟨rfl, bt B1.out hb2⟩
end Go.Proofs.Ytijldpkchmpjkaa
