/- TICKET 12: Make; a sale that is known; what is known of it. -/
import Derived.Test.YtijldpkchmpjkaaTick11
namespace Go.Proofs.Ytijldpkchmpjkaa
open Go.RowKit Go.Lib Go.Tk Go.Sort Go.Shelf

theorem ws_pos {s : SaleV} (ok : SaleOk s) : PosRow (wsOf s) := fun x hx => by
  obtain ⟨l, hl, rfl⟩ := List.mem_map.1 hx
  exact (ok.legs l hl).2.2
theorem check_shape {s : SaleV} {n : Int} (h : checkE s n = 0) : 2 ≤ n ∧ n ≤ 8 ∧ shapeB s n = true ∧ (sumFrom 0 (priceL s)).2 = 0 := by
  unfold checkE at h
  by_cases h1 : n < 2 ∨ 8 < n
  · rw [if_pos h1] at h; cases h
  · rw [if_neg h1] at h
    by_cases h2 : shapeB s n = true
    · rw [if_pos h2] at h
      exact ⟨by omega, by omega, h2, h⟩
    · rw [if_neg h2] at h; cases h
theorem shape_share {s : SaleV} {n : Int} (ok : SaleOk s) (h : shapeB s n = true) : shareE s.fare (wsOf s) = 0 ∧ 0 < (wsOf s).sum ∧ 1 ≤ s.legs.length ∧ s.legs.length ≤ 4 ∧ 0 ≤ s.fare ∧ s.fare ≤ 1125899906842624 := by
  simp only [shapeB, Bool.and_eq_true] at h
  obtain ⟨⟨⟨⟨-, h2⟩, h3⟩, h4⟩, -⟩ := h
  simp only [must2, Bool.and_eq_true, decide_eq_true_eq] at h2
  simp only [must3, List.all_cons, List.all_nil, Bool.and_true, Bool.and_eq_true, amtB, decide_eq_true_eq] at h3
  have hp := ws_pos ok
  have hsum : 0 < (wsOf s).sum := by
    rcases hl : s.legs with _ | ⟨x, r⟩
    · rw [hl] at h2; simp at h2
    · have hx : x ∈ s.legs := by rw [hl]; simp
      have hb : legBad n x = false := by
        simp only [must4, Bool.not_eq_true'] at h4
        cases hq : legBad n x with
        | false => rfl
        | true => rw [List.any_eq_true.2 ⟨x, hx, hq⟩] at h4; cases h4
      have h0 : x.x ≠ 0 := fun e => by simp [legBad, e] at hb
      have hx2 := (ok.legs x hx).2.2.1
      have := le_sum (wsOf s) (fun y hy => (hp y hy).1) x.x (List.mem_map.2 ⟨x, hx, rfl⟩)
      omega
  refine ⟨?_, hsum, h2.1.1, h2.1.2, h3.1.1, h3.1.2⟩
  unfold shareE
  rw [if_neg (by rw [ws_len]; omega), if_neg (by omega), if_pos ⟨h3.1.1, h3.1.2⟩]

def MakeOut (c r n : Int) (s : SaleV) (w : World) (e : Ending) (w' : World) : Prop :=
  (makeE c r s n = 0 ∧ MadeDoc c r s w e w') ∨ (makeE c r s n ≠ 0 ∧ e = .returned (.tuple #[zeroDoc, .int .i64 (makeE c r s n)]) ∧ Below w.heap.size w w')

theorem make_any (c r n : Int) (s : SaleV) (A : SaleA) (w : World) (hs : SaleAt w s A) (ok : SaleOk s) (hc0 : 0 ≤ c) (hc1 : c ≤ 255) :
    Calls Try.prog 23 #[.agg #[.int .u8 c, .int .u64 r], saleAgg s A, .int .i64 n] w (MakeOut c r n s w) := by
  have hno : ∀ k, makeE c r s n = k → k ≠ 0 → (Calls Try.prog 23 #[.agg #[.int .u8 c, .int .u64 r], saleAgg s A, .int .i64 n] w fun e w' => e = .returned (.tuple #[zeroDoc, .int .i64 k]) ∧ Below w.heap.size w w') → Calls Try.prog 23 #[.agg #[.int .u8 c, .int .u64 r], saleAgg s A, .int .i64 n] w (MakeOut c r n s w) := by
    intro k hk h0 h
    refine h.mono ?_
    rintro e w' ⟨rfl, hb⟩
    exact .inr ⟨by rw [hk]; exact h0, by rw [hk], hb⟩
  by_cases h1 : checkE s n = 1
  · exact hno 1 (by unfold makeE; rw [if_pos (.inl h1)]) (by decide) (make_arg c r n s A w hs ok h1)
  by_cases h2 : c < n
  · by_cases h3 : 1 ≤ r
    · by_cases h4 : r ≤ 9999999999
      · have ht : ticketB c r n = true := by simp [ticketB, h2, h3, h4]
        have hm : makeE c r s n = checkE s n := by unfold makeE; rw [if_neg (by simp [h1, ht])]
        by_cases h5 : checkE s n = 0
        · obtain ⟨-, -, hsh, -⟩ := check_shape h5
          obtain ⟨hE, -⟩ := shape_share ok hsh
          refine (make_good c r n s A w hs ok hc0 hc1 h5 h2 h3 h4 (ws_pos ok) hE).mono ?_
          intro e w' h
          exact .inl ⟨by rw [hm, h5], h⟩
        · exact hno _ hm h5 (make_bad c r n s A w hs ok h1 hc0 hc1 h2 h3 h4 h5)
      · exact hno 1 (by unfold makeE; rw [if_pos (.inr (by simp [ticketB, h4]))]) (by decide) (make_high c r n s A w hs ok h1 hc0 hc1 h2 (by omega))
    · exact hno 1 (by unfold makeE; rw [if_pos (.inr (by simp [ticketB, h3]))]) (by decide) (make_low c r n s A w hs ok h1 hc0 hc1 h2 (by omega))
  · exact hno 1 (by unfold makeE; rw [if_pos (.inr (by simp [ticketB, h2]))]) (by decide) (make_car c r n s A w hs ok h1 hc0 hc1 (by omega))

def knownS : SaleV := ⟨⟨#[68, 79, 69, 47, 74]⟩, [⟨0, 0, 1⟩, ⟨1, 0, 1⟩, ⟨0, 0, 1⟩], 100, [⟨⟨#[71, 66]⟩, 7⟩, ⟨⟨#[85, 83]⟩, 3⟩], 20⟩
theorem knownOk : SaleOk knownS where
  name := by unfold maxLen; decide
  legs := by intro l hl; simp [knownS] at hl; rcases hl with rfl | rfl | rfl <;> (unfold LegOk; decide)
  taxes := by intro t ht; simp [knownS] at ht; rcases ht with rfl | rfl <;> (unfold TaxOk maxLen; decide)
  fare := by decide
  pen := by decide
  nl := by decide
  nt := by decide
def KnownSale (s : SaleV) (w : World) (e : Ending) (w' : World) : Prop := ∃ A, e = .returned (saleAgg s A) ∧ SaleAt w' s A ∧ Below w.heap.size w w'

set_option maxRecDepth 100000 in
set_option maxHeartbeats 1000000 in
theorem known_any9 (w : World) : Calls Try.prog 41 #[] w (KnownSale knownS w) := by
  go_enter Try.func41, Try.ntmps41
  go_wp2
  have xb := ((Box.new (w := w) (vs := #[.string ⟨#[68, 79, 69, 47, 74]⟩, .slice (some ⟨w.heap.size + 1, 0, none⟩) 3 3, .int .i64 100, .slice (some ⟨w.heap.size + 1 + 1, 0, none⟩) 2 2, .int .i64 20]) (E := 49) rfl).kept (below_alloc _ (.cells #[.int .u8 0, .int .u16 0, .int .u32 1, .int .u8 1, .int .u16 0, .int .u32 1, .int .u8 0, .int .u16 0, .int .u32 1] 52))).kept (below_alloc _ (.cells #[.string ⟨#[71, 66]⟩, .int .i64 7, .string ⟨#[85, 83]⟩, .int .i64 3] 60))
  have k0 := xb.cell 0 rfl
  have k1 := xb.cell 1 rfl
  have k2 := xb.cell 2 rfl
  have k3 := xb.cell 3 rfl
  have k4 := xb.cell 4 rfl
  have hb := (((Below.refl w.heap.size w).alloc (Nat.le_refl _) (.cells #[.string ⟨#[68, 79, 69, 47, 74]⟩, .slice (some ⟨w.heap.size + 1, 0, none⟩) 3 3, .int .i64 100, .slice (some ⟨w.heap.size + 1 + 1, 0, none⟩) 2 2, .int .i64 20] 49)).alloc (by simp) (.cells #[.int .u8 0, .int .u16 0, .int .u32 1, .int .u8 1, .int .u16 0, .int .u32 1, .int .u8 0, .int .u16 0, .int .u32 1] 52)).alloc (by simp; omega) (.cells #[.string ⟨#[71, 66]⟩, .int .i64 7, .string ⟨#[85, 83]⟩, .int .i64 3] 60)
  refine bodyPost_ret (v := saleAgg knownS ⟨some ⟨w.heap.size + 1, 0, none⟩, 3, some ⟨w.heap.size + 1 + 1, 0, none⟩, 2⟩) (by simp [results, Try.results41, go_sem, k0, k1, k2, k3, k4]; rfl) rfl ⟨_, rfl, ⟨?_, ?_, (fun h => by cases h), (fun h => by cases h)⟩, hb⟩
  · exact (row_new (vs := [.int .u8 0, .int .u16 0, .int .u32 1, .int .u8 1, .int .u16 0, .int .u32 1, .int .u8 0, .int .u16 0, .int .u32 1]) (by simp)).kept (below_alloc _ _)
  · exact row_new (vs := [.string ⟨#[71, 66]⟩, .int .i64 7, .string ⟨#[85, 83]⟩, .int .i64 3]) (by simp)

theorem known_made : makeE 0 1 knownS 2 = 0 := by decide
theorem known_price : sumFrom 0 (priceL knownS) = (110, 0) := by decide
theorem known9_sort : sortL (restsL 100 3 [1, 1, 1]) = [(1, 0), (1, 1), (1, 2)] := by
  refine (sortL_unique ?_ ?_).symm
  · decide
  · decide
theorem known_values : shareL 100 (wsOf knownS) = [34, 33, 33] := by
  unfold shareL chosen
  have h1 : wsOf knownS = [1, 1, 1] := by decide
  have hs : ([1, 1, 1] : List Int).sum = 3 := by decide
  rw [h1, hs, known9_sort]
  decide

set_option maxRecDepth 100000 in
set_option maxHeartbeats 4000000 in
theorem wakes9 (w : World) : Calls Try.prog 22 #[] w fun e w' => e = .returned (.bool true) ∧ Below w.heap.size w w' := by
  go_enter Try.func22, Try.ntmps22
  go_wp2_with fail
  refine (known_any9 _).mono ?_
  rintro e w1 ⟨A1, rfl, hs1, hb1⟩
  have B1 := hid hb1
  go_wp2_with fail
  refine (price_any knownS A1 _ hs1 knownOk).mono ?_
  rintro e w2 ⟨rfl, hb2⟩
  rw [known_price]
  have B2 := hid (bt B1.out hb2)
  clear hs1 hb1 hb2 B1
  go_wp2_with fail
  refine (known_any9 _).mono ?_
  rintro e w3 ⟨A3, rfl, hs3, hb3⟩
  have B3 := hid (bt B2.out hb3)
  clear B2 hb3
  go_wp2_with fail
  refine (make_any 0 1 2 knownS A3 _ hs3 knownOk (by decide) (by decide)).mono ?_
  rintro e w4 (⟨-, A4, va, vc, rfl, -, hv, hb4⟩ | ⟨h, -⟩)
  · have B4 := hid (bt B3.out hb4)
    rw [show knownS.fare = 100 from rfl, known_values] at hv
    have HV := hid hv
    clear hs3 hb4 hv B3
    unfold docV
    go_wp2_with fail
    refine (give_any 34 20 _ (by decide) (by decide)).mono ?_
    rintro e w5 ⟨rfl, rfl⟩
    rw [show giveV 34 20 = 14 by decide, show giveK 34 20 = 20 by decide]
    go_wp2_with fail
    refine (rsame6_any va _ knownS.legs.length 3 vc _ [34, 33, 33] [34, 33, 33] _ rfl rfl (HV.out.kept ((below_alloc _ _).alloc (by simp) _)) (row_new (vs := [.int .i64 34, .int .i64 33, .int .i64 33]) (by simp)) (by decide) (by omega)).mono ?_
    rintro e w5 ⟨rfl, hb5⟩
    have xb := ((Box.new (w := w4) (vs := #[.int .u8 0, .int .u64 1, .string knownS.name, .slice A4.la knownS.legs.length A4.lc, .int .i64 knownS.fare, .slice A4.ta knownS.taxes.length A4.tc, .int .i64 knownS.pen, .slice va knownS.legs.length vc, .int .u8 0, .int .u64 0, .int .u8 0, .int .u64 0, .int .i64 0, .int .i64 knownS.fare, .int .i64 0, .int .i64 0, .int .i64 0]) (E := 54) rfl).kept (below_alloc _ (.cells #[.int .i64 34, .int .i64 33, .int .i64 33] 2))).kept hb5
    have k6 := xb.cell 13 (v := .int .i64 100) rfl
    have hb6 := ((B4.out.alloc B4.out.size (.cells #[.int .u8 0, .int .u64 1, .string knownS.name, .slice A4.la knownS.legs.length A4.lc, .int .i64 knownS.fare, .slice A4.ta knownS.taxes.length A4.tc, .int .i64 knownS.pen, .slice va knownS.legs.length vc, .int .u8 0, .int .u64 0, .int .u8 0, .int .u64 0, .int .i64 0, .int .i64 knownS.fare, .int .i64 0, .int .i64 0, .int .i64 0] 54)).alloc (by have := B4.out.size; simp; omega) (.cells #[.int .i64 34, .int .i64 33, .int .i64 33] 2)).trans (hb5.mono (by have := B4.out.size; simp; omega))
    clear xb hb5
    go_wp2
    go_ret
    exact ⟨rfl, hb6⟩
  · exact absurd known_made h
end Go.Proofs.Ytijldpkchmpjkaa
