/- TicketTaxes: in which order taxes stand plays no part. -/
import Derived.Test.YtijldpkchmpjkaaTick13
import Derived.Test.YtijldpkchmpjkaaSortRow
import Derived.BigRegion
import Derived.BigQuiet
import Derived.Deep.QuietTactic
namespace Go.Proofs.Ytijldpkchmpjkaa
open Go.RowKit Go.Lib Go.Tk Go.Sort Go.Shelf
attribute [-go_sem] loadCellsFrom

/-- two taxes change places -/
def swapT (s : SaleV) (a b : Nat) : SaleV := { s with taxes := (swp s.taxes.toArray a b).toList }
theorem permIn_list' {α : Type} [Inhabited α] {d d' : Array α} (h : PermIn 0 d.size d d') : d'.toList.Perm d.toList := by
  have h2 := h.2.2
  have e : ∀ x : Array α, (x.extract 0 x.size).toList = x.toList := fun x => by simp
  have hs := h.1
  rw [e d] at h2
  rw [show d'.extract 0 d.size = d'.extract 0 d'.size by rw [hs], e d'] at h2
  first | exact h2 | exact h2.symm
theorem perm_sum' {l m : List Int} (h : l.Perm m) : l.sum = m.sum := by
  induction h with
  | nil => rfl
  | cons x _ ih => simp [ih]
  | swap x y l => simp; omega
  | trans _ _ h1 h2 => rw [h1, h2]
theorem great_no' {s : SaleV} (h : greatB s = false) : s.legs.length ≤ 60 ∧ s.taxes.length ≤ 60 ∧ s.name.size ≤ 200 := by
  simp only [greatB, Bool.or_eq_false_iff, decide_eq_false_iff_not] at h
  omega
theorem swapT_perm (s : SaleV) {a b : Nat} (ha : a < s.taxes.length) (hb : b < s.taxes.length) : (swapT s a b).taxes.Perm s.taxes := by
  have hp := swp_permIn s.taxes.toArray 0 s.taxes.length a b (Nat.zero_le _) (by simpa using ha) (Nat.zero_le _) (by simpa using hb) (by simp)
  have := permIn_list' (d := s.taxes.toArray) (d' := swp s.taxes.toArray a b) (by simpa using hp)
  simpa [swapT] using this
theorem perm_any {α : Type} {p : α → Bool} {l m : List α} (h : l.Perm m) : l.any p = m.any p := by
  rw [Bool.eq_iff_iff, List.any_eq_true, List.any_eq_true]
  exact ⟨fun ⟨x, h1, h2⟩ => ⟨x, h.mem_iff.1 h1, h2⟩, fun ⟨x, h1, h2⟩ => ⟨x, h.mem_iff.2 h1, h2⟩⟩

theorem price_perm {s : SaleV} {n : Int} {a b : Nat} (h : shapeB s n = true) (ha : a < s.taxes.length) (hb : b < s.taxes.length) : sumFrom 0 (priceL (swapT s a b)) = sumFrom 0 (priceL s) := by
  have hp := swapT_perm s ha hb
  simp only [shapeB, Bool.and_eq_true] at h
  obtain ⟨⟨⟨⟨-, -⟩, h3⟩, -⟩, h5⟩ := h
  simp only [must3, List.all_cons, List.all_nil, Bool.and_true, Bool.and_eq_true, amtB, decide_eq_true_eq] at h3
  have hnn : ∀ t ∈ s.taxes, 0 ≤ t.amt := fun t ht => by
    simp only [must5, Bool.not_eq_true'] at h5
    have hb : taxBad t = false := by
      cases hq : taxBad t with
      | false => rfl
      | true => rw [List.any_eq_true.2 ⟨t, ht, hq⟩] at h5; cases h5
    simp only [taxBad, Bool.or_eq_false_iff, Bool.not_eq_false'] at hb
    have := hb.2
    simp only [amtB, Bool.and_eq_true, decide_eq_true_eq] at this
    exact this.1
  have n1 : ∀ x ∈ priceL s, 0 ≤ x := fun x hx => by
    rcases List.mem_cons.1 hx with rfl | hx
    · exact h3.1.1
    · obtain ⟨t, ht, rfl⟩ := List.mem_map.1 hx; exact hnn t ht
  have n2 : ∀ x ∈ priceL (swapT s a b), 0 ≤ x := fun x hx => by
    rcases List.mem_cons.1 hx with rfl | hx
    · exact h3.1.1
    · obtain ⟨t, ht, rfl⟩ := List.mem_map.1 hx; exact hnn t (hp.mem_iff.1 ht)
  have hsum : (priceL (swapT s a b)).sum = (priceL s).sum := by
    unfold priceL
    rw [List.sum_cons, List.sum_cons, perm_sum' (hp.map (·.amt))]
    rfl
  rw [sumFrom_nn _ 0 (by decide) (by omega) n2, sumFrom_nn _ 0 (by decide) (by omega) n1, hsum]

theorem check_perm {s : SaleV} {n : Int} {a b : Nat} (ha : a < s.taxes.length) (hb : b < s.taxes.length) : checkE (swapT s a b) n = checkE s n := by
  have hp := swapT_perm s ha hb
  have hsh : shapeB (swapT s a b) n = shapeB s n := by
    have h2 : must2 (swapT s a b) = must2 s := by unfold must2; rw [hp.length_eq]; rfl
    have h5 : must5 (swapT s a b) = must5 s := by unfold must5; rw [perm_any hp]
    unfold shapeB
    rw [h2, h5]
    rfl
  unfold checkE
  rw [hsh]
  by_cases h1 : n < 2 ∨ 8 < n
  · rw [if_pos h1, if_pos h1]
  · rw [if_neg h1, if_neg h1]
    by_cases h2 : shapeB s n = true
    · rw [if_pos h2, if_pos h2, price_perm h2 ha hb]
    · rw [if_neg h2, if_neg h2]

theorem box_load {w : World} {b n : Nat} {vs : Array Value} (h : Box w b vs) (hn : vs.size = n) : Sem.run Try.prog (loadCellsFrom ⟨b, 0, none⟩ 0 n #[]) w = .ok vs w := by
  have := run_loadCellsFrom_list Try.prog w (Addr.mk b 0 none) vs.toList n (by simpa using hn) (fun j v hj => by
    have : (Addr.mk b 0 none).add j = ⟨b, j, none⟩ := by
      unfold Addr.add
      split
      · rename_i e; subst e; rfl
      · simp
    rw [this]
    exact h.cell j (by simpa using hj))
  simpa using this

set_option maxRecDepth 100000 in
set_option maxHeartbeats 8000000 in
theorem taxes_small (s : SaleV) (A : SaleA) (n i k : Int) (w : World) (hs : SaleAt w s A) (ok : SaleOk s) (hg : greatB s = false) (h0 : 0 < s.taxes.length) :
    Calls Try.prog 9 #[saleAgg s A, .int .i64 n, .int .i64 i, .int .i64 k] w fun e w' => e = .returned (.bool true) ∧ Below w.heap.size w w' := by
  have mixed := Try.mixed
  obtain ⟨la, lc, ta, tc⟩ := A
  have nn := great_no' hg
  have hln : (s.taxes.length : Int) ≤ 60 := by have := nn.2.1; omega
  have K1 := hid (fun w' => great_any s ⟨la, lc, ta, tc⟩ w' (by have := nn.1; unfold maxLen; omega) (by have := nn.2.1; unfold maxLen; omega) ok.name)
  obtain ⟨a, hA, pA1, pA2, pA3, pA4⟩ := place_of i s.taxes.length h0
  obtain ⟨b, hB, pB1, pB2, pB3, pB4⟩ := place_of k s.taxes.length h0
  have PA := hid (And.intro pA1 pA2)
  have PB := hid (And.intro pB1 pB2)
  clear pA1 pA2 pB1 pB2
  have KO := hid (fun w' (hb : Below w.heap.size w w') => own_any s ⟨la, lc, ta, tc⟩ w' (hs.kept hb) ok.nl ok.nt)
  have HS := hid hs
  have OK := hid ok
  have HG := hid hg
  have p0 : (0 : Int) < (s.taxes.length : Int) := by omega
  have d0 : ((s.taxes.length : Int) == 0) = false := by rw [beq_eq_false_iff_ne]; omega
  have d0' : (s.taxes.length == 0) = false := by rw [beq_eq_false_iff_ne]; omega
  have pn : s.taxes ≠ [] := by intro e; rw [e] at h0; simp at h0
  clear hs ok hg nn
  unfold saleAgg at K1 KO ⊢
  dsimp only at K1 KO ⊢
  have ld0 := box_load (n := 5) (Box.new (w := w) (vs := #[.string s.name, .slice la s.legs.length lc, .int .i64 s.fare, .slice ta s.taxes.length tc, .int .i64 s.pen]) (E := 49) rfl) rfl
  go_enter Try.func9, Try.ntmps9
  go_wp2_with fail
  refine (K1.out _).mono ?_
  rintro e w2 ⟨rfl, hb2⟩
  rw [HG.out]
  have xs := (Box.new (w := w) (vs := #[.string s.name, .slice la s.legs.length lc, .int .i64 s.fare, .slice ta s.taxes.length tc, .int .i64 s.pen]) (E := 49) rfl).kept hb2
  have B2 := hid ((below_alloc w (.cells #[.string s.name, .slice la s.legs.length lc, .int .i64 s.fare, .slice ta s.taxes.length tc, .int .i64 s.pen] 49)).trans (hb2.mono (by simp)))
  have XS := hid xs
  have k3 := xs.cell 3 rfl
  have z0 : w.heap.size < w2.heap.size := xs.lt
  clear hb2 xs ld0
  obtain ⟨p, hp⟩ : ∃ p, i.tmod (s.taxes.length : Int) = p := ⟨_, rfl⟩
  obtain ⟨q, hq⟩ : ∃ p, k.tmod (s.taxes.length : Int) = p := ⟨_, rfl⟩
  have PA' := PA.out
  have PB' := PB.out
  rw [hp] at pA3 pA4 PA'
  rw [hq] at pB3 pB4 PB'
  have PA2 := hid PA'
  have PB2 := hid PB'
  clear PA PB PA' PB'
  go_wp2_with fail
  go_region
  go_upto_if 36 with fail
  go_cut [9] (fun s wx => s = .int .i64 a ∧ wx = w2.drew)
  case first =>
    by_cases hpn : p < 0
    · have e := PA2.out.1 hpn
      have E := hid e
      clear e
      go_wp2
      go_meet
      case rel => exact ⟨by rw [E.out], rfl⟩
    · have e := PA2.out.2 (by omega)
      have E := hid e
      clear e
      go_wp2
      go_meet
      case rel => exact ⟨by rw [E.out], rfl⟩
  case rest =>
  obtain ⟨rfl, rfl⟩ := hcut
  go_upto_if 43 with fail
  go_cut [10] (fun s wx => s = .int .i64 b ∧ wx = w2.drew)
  case first =>
    by_cases hpn : q < 0
    · have e := PB2.out.1 hpn
      have E := hid e
      clear e
      go_wp2
      go_meet
      case rel => exact ⟨by rw [E.out], rfl⟩
    · have e := PB2.out.2 (by omega)
      have E := hid e
      clear e
      go_wp2
      go_meet
      case rel => exact ⟨by rw [E.out], rfl⟩
  case rest =>
  obtain ⟨rfl, rfl⟩ := hcut
  have XD := hid (XS.out.kept (Below.refl _ _).drew)
  have ld1 := box_load (n := 5) XD.out rfl
  go_wp2_with fail
  refine (KO.out _ (B2.out.drew.mono (by simp))).mono ?_
  rintro e w3 ⟨⟨oa, oc, ua, uc⟩, rfl, hown, hb3⟩
  unfold saleAgg
  dsimp only
  obtain ⟨g, uc', hv, hg0, hgl⟩ := owns_form (n := s.taxes.length) hown.taxes h0
  obtain ⟨rfl, rfl⟩ : ua = some ⟨g, 0, none⟩ ∧ uc = uc' := by cases hv; exact ⟨rfl, rfl⟩
  obtain ⟨w4, hw4⟩ : ∃ w4, w4 = w3.alloc (.cells #[.string s.name, .slice oa s.legs.length oc, .int .i64 s.fare, .slice (some ⟨g, 0, none⟩) s.taxes.length uc, .int .i64 s.pen] 49) := ⟨_, rfl⟩
  have yo : Box w4 w3.heap.size #[.string s.name, .slice oa s.legs.length oc, .int .i64 s.fare, .slice (some ⟨g, 0, none⟩) s.taxes.length uc, .int .i64 s.pen] := by rw [hw4]; exact Box.new rfl
  have xo : Box w4 w.heap.size #[.string s.name, .slice la s.legs.length lc, .int .i64 s.fare, .slice ta s.taxes.length tc, .int .i64 s.pen] := by rw [hw4]; exact (XD.out.kept hb3).kept (below_alloc _ _)
  have ow4 : OwnedS w4 w2.drew.heap.size s ⟨oa, oc, some ⟨g, 0, none⟩, uc⟩ := by rw [hw4]; exact hown.kept (below_alloc _ _)
  have b4 : Below w.heap.size w w4 := by rw [hw4]; exact bt (bt B2.out.drew hb3) (below_alloc _ _)
  have z4 : w4.heap.size = w3.heap.size + 1 := by rw [hw4]; simp
  have m3 := yo.cell 3 rfl
  have HW4 := hid hw4
  have YO := hid yo
  have XO := hid xo
  have OW := hid ow4
  have B4 := hid b4
  have hsz : s.taxes.toArray.size = s.taxes.length := by simp
  have hH : HoldsK encTax 2 w4 g 0 s.taxes.toArray := holdsK_of_owns encTax_len s.taxes.toArray hsz (by simpa [cellsL] using ow4.taxes)
  have R : Aside (RowK encTax 2 w4 g 0 s.taxes.toArray) := ⟨encTax_len, encTax_one, hH, by omega⟩
  have S0 : Aside (SWK encTax 2 w4 g 0 s.taxes.toArray w4) := SWK.start hH
  have ia : a < s.taxes.toArray.size := by simpa using hA
  have ib : b < s.taxes.toArray.size := by simpa using hB
  have SW : Aside (SWK encTax 2 w4 g 0 (swp s.taxes.toArray a b) ((w4.drew.setCells g (0 + a * 2) (encTax s.taxes.toArray[b]!)).setCells g (0 + b * 2) (encTax s.taxes.toArray[a]!))) := S0.out.swapped R.out a b ia ib
  have l1 := S0.out.ld1 R.out rfl Try.prog a ia
  have l2 := S0.out.ld1 R.out rfl Try.prog b ib
  have s1 := S0.out.st1 R.out rfl Try.prog a ia s.taxes.toArray[b]!
  have s2 := S0.out.st2 R.out rfl Try.prog a b ia ib s.taxes.toArray[b]! s.taxes.toArray[a]!
  have n1 : (encTax s.taxes.toArray[a]!).length = 2 := encTax_len _
  have n2 : (encTax s.taxes.toArray[b]!).length = 2 := encTax_len _
  generalize encTax s.taxes.toArray[a]! = cI at SW l1 s2 n1
  generalize encTax s.taxes.toArray[b]! = cJ at SW l2 s1 s2 n2
  simp only [Nat.zero_add] at l1 l2 s1 s2 SW
  clear ld1 k3 hown hb3 hw4 yo xo ow4 b4 hv hH S0 
  have pa0 : (0 : Int) ≤ (a : Int) := by omega
  have pa1 : (a : Int) < (s.taxes.length : Int) := by omega
  have pb0 : (0 : Int) ≤ (b : Int) := by omega
  have pb1 : (b : Int) < (s.taxes.length : Int) := by omega
  go_wp2_with fail
  rw [← HW4.out]
  have m3a : (w4.drew.setCells g (a * 2) cJ).cell? ⟨w3.heap.size, 3, none⟩ = some (.slice (some ⟨g, 0, none⟩) s.taxes.length uc) := by
    rw [World.cell?_setCells_out g _ _ _ _ (fun e _ => absurd e (by show w3.heap.size ≠ g; omega))]
    exact m3
  go_big_region_o
  clear l1 l2 s1 s2
  generalize (w4.drew.setCells g (a * 2) cJ).setCells g (b * 2) cI = w5 at SW ⊢
  have gr := swk_grown SW.out
  have gne : ∀ x, x < w2.heap.size ∨ w3.heap.size ≤ x → some g ≠ some x := fun x hx e => by have := Option.some.inj e; simp at hg0; omega
  have yo := YO.out.grown gr (gne _ (.inr (Nat.le_refl _)))
  have xo := XO.out.grown gr (gne _ (.inl z0))
  have b5 : Below w.heap.size w w5 := B4.out.grown gr B4.out.size (fun k hk => by cases hk; simp at hg0; omega)
  have so5 : SaleAt w5 (swapT s a b) ⟨oa, oc, some ⟨g, 0, none⟩, uc⟩ := by
    have hl := ownsRow_other OW.out.legs (v := .slice (some ⟨g, 0, none⟩) s.taxes.length uc) gr OW.out.apart.symm
    obtain ⟨a9, c9, e9, hr9, hn9, -⟩ := owns_slice hl
    cases e9
    exact ⟨hr9, row_of_holdsK encTax_len (swp s.taxes.toArray a b) (SW.out.holds R.out.hblk R.out.hH (by rw [size_swp])), hn9, fun h => by cases h⟩
  have ss5 : SaleAt w5 s ⟨la, lc, ta, tc⟩ := HS.out.kept b5
  have elen : (swapT s a b).taxes.length = s.taxes.length := (swapT_perm s hA hB).length_eq
  have okT : SaleOk (swapT s a b) := ⟨OK.out.name, OK.out.legs, fun t ht => OK.out.taxes t ((swapT_perm s hA hB).mem_iff.1 ht), OK.out.fare, OK.out.pen, OK.out.nl, by rw [elen]; exact OK.out.nt⟩
  have C1 := hid (fun w' (hb : Below w5.heap.size w5 w') => tcheck_any s ⟨la, lc, ta, tc⟩ n w' (ss5.kept hb) OK.out)
  have C2 := hid (fun w' (hb : Below w5.heap.size w5 w') => tcheck_any (swapT s a b) ⟨oa, oc, some ⟨g, 0, none⟩, uc⟩ n w' (so5.kept hb) okT)
  have P1 := hid (fun w' (hb : Below w5.heap.size w5 w') => price_any s ⟨la, lc, ta, tc⟩ w' (ss5.kept hb) OK.out)
  have P2 := hid (fun w' (hb : Below w5.heap.size w5 w') => price_any (swapT s a b) ⟨oa, oc, some ⟨g, 0, none⟩, uc⟩ w' (so5.kept hb) okT)
  have hce := check_perm (n := n) hA hB
  have hpe := fun h => price_perm (n := n) h hA hB
  obtain ⟨pT, hpT⟩ : ∃ pT, sumFrom 0 (priceL (swapT s a b)) = pT := ⟨_, rfl⟩
  rw [hpT] at P2
  simp only [hpT] at hpe
  unfold saleAgg at C1 C2 P1 P2
  rw [elen, hce] at C2
  rw [elen] at P2
  dsimp only [swapT] at C1 C2 P1 P2
  obtain ⟨ce, hce2⟩ : ∃ ce, checkE s n = ce := ⟨_, rfl⟩
  rw [hce2] at C1 C2
  have HCE := hid hce2
  have HPE := hid hpe
  have YO5 := hid yo
  have XO5 := hid xo
  have B5 := hid b5
  have LS := hid (fun w' (hb : Below w5.heap.size w5 w') => box_load (n := 5) (XO5.out.kept hb) rfl)
  have LO := hid (fun w' (hb : Below w5.heap.size w5 w') => box_load (n := 5) (YO5.out.kept hb) rfl)
  clear hce hpe hce2 hpT elen okT yo xo b5 so5 ss5 gne gr SW m3a m3 n1 n2 R hgl hg0 ia ib hsz z4 OW YO XO HW4 B4
  clear K1 KO HS pa0 pa1 pb0 pb1 pn d0 d0' p0 z0 pA3 pA4 pB3 pB4 hp hq PA2 PB2 XD XS
  have ls := LS.out _ (Below.refl _ _).drew
  have lo := LO.out _ (Below.refl _ _).drew
  go_upto_region 10 with fail
  go_cut [75] (fun s wx => s = .bool false ∧ Below w5.heap.size w5 wx)
  case first =>
    have b0 := (Below.refl w5.heap.size w5).drew
    go_region_held3 (fun wr => Sem.run Try.prog (loadCellsFrom ⟨w.heap.size, 0, none⟩ 0 5 #[]) wr = .ok #[.string s.name, .slice la s.legs.length lc, .int .i64 s.fare, .slice ta s.taxes.length tc, .int .i64 s.pen] wr ∧ Sem.run Try.prog (loadCellsFrom ⟨w3.heap.size, 0, none⟩ 0 5 #[]) wr = .ok #[.string s.name, .slice oa s.legs.length oc, .int .i64 s.fare, .slice (some ⟨g, 0, none⟩) s.taxes.length uc, .int .i64 s.pen] wr ∧ Below w5.heap.size w5 wr)
      (first
        | exact ⟨ls, lo, b0⟩
        | exact ⟨LS.out _ (bt b0 hb6), LO.out _ (bt b0 hb6), bt b0 hb6⟩
        | exact ⟨LS.out _ (bt (bt b0 hb6) hb7), LO.out _ (bt (bt b0 hb6) hb7), bt (bt b0 hb6) hb7⟩)
      (first
        | (go_at_call 25; with_reducible (refine (C1.out _ b0).mono ?_); rintro e w6 ⟨rfl, hb6⟩)
        | (go_at_call 25; with_reducible (refine (C2.out _ (bt b0 hb6)).mono ?_); rintro e w7 ⟨rfl, hb7⟩))
    all_goals
      go_wp2_with fail
      go_meet
      case rel => exact ⟨rfl, bt (bt b0 hb6) hb7⟩
  case rest =>
  obtain ⟨rfl, b6⟩ := hcut
  clear ls lo
  have ls := LS.out _ b6
  go_wp2_with fail
  refine (C1.out _ b6).mono ?_
  rintro e w7 ⟨rfl, hb7⟩
  have b7 := bt b6 hb7
  clear hb7 ls b6
  by_cases hz : ce = 0
  case neg =>
    have hz' : (ce != 0) = true := by simpa using hz
    have B7 := hid b7
    clear hz b7
    go_wp2_with fail
    refine (wakes9 _).mono ?_
    rintro e w8 ⟨rfl, hb8⟩
    have B8 := hid (B5.out.trans ((bt B7.out hb8).mono B5.out.size))
    clear hb8
    go_wp2
    go_ret
    exact ⟨rfl, B8.out⟩
  case pos =>
  subst hz
  have hsh : shapeB s n = true := by
    have := HCE.out
    unfold checkE at this
    cases h : shapeB s n with
    | true => rfl
    | false => rw [h] at this; split at this <;> simp at this
  have hpq := HPE.out hsh
  rw [hpq] at P2
  clear hpq hsh HPE HCE
  have ls := LS.out _ b7
  go_wp2_with fail
  refine (P1.out _ b7).mono ?_
  rintro e w8 ⟨rfl, hb8⟩
  have b8 := bt b7 hb8
  clear hb8 ls b7
  generalize sumFrom 0 (priceL s) = pr at *
  have lo := LO.out _ b8
  go_wp2_with fail
  refine (P2.out _ b8).mono ?_
  rintro e w9 ⟨rfl, hb9⟩
  have b9 := bt b8 hb9
  clear hb9 lo b8
  have B9 := hid b9
  clear b9
  go_wp2_with fail
  refine (wakes9 _).mono ?_
  rintro e w10 ⟨rfl, hb10⟩
  have B10 := hid (B5.out.trans ((bt B9.out hb10).mono B5.out.size))
  clear hb10
  go_wp2
  go_ret
  exact ⟨rfl, B10.out⟩

set_option maxRecDepth 100000 in
set_option maxHeartbeats 4000000 in
theorem taxes_early (s : SaleV) (A : SaleA) (n i k : Int) (w : World) (h1 : s.legs.length ≤ maxLen) (h2 : s.taxes.length ≤ maxLen) (h3 : s.name.size ≤ maxLen) (hg : greatB s = true ∨ s.taxes.length = 0) :
    Calls Try.prog 9 #[saleAgg s A, .int .i64 n, .int .i64 i, .int .i64 k] w fun e w' => e = .returned (.bool true) ∧ Below w.heap.size w w' := by
  obtain ⟨la, lc, ta, tc⟩ := A
  have K1 := hid (fun w' => great_any s ⟨la, lc, ta, tc⟩ w' h1 h2 h3)
  clear h1 h2 h3
  unfold saleAgg at K1 ⊢
  dsimp only at K1 ⊢
  have ld0 := box_load (n := 5) (Box.new (w := w) (vs := #[.string s.name, .slice la s.legs.length lc, .int .i64 s.fare, .slice ta s.taxes.length tc, .int .i64 s.pen]) (E := 49) rfl) rfl
  cases hs : greatB s with
  | true =>
    have HS := hid hs
    clear hs hg
    go_enter Try.func9, Try.ntmps9
    go_wp2_with fail
    refine (K1.out _).mono ?_
    rintro e w2 ⟨rfl, hb2⟩
    rw [HS.out]
    have B2 := hid ((below_alloc w (.cells #[.string s.name, .slice la s.legs.length lc, .int .i64 s.fare, .slice ta s.taxes.length tc, .int .i64 s.pen] 49)).trans (hb2.mono (by simp)))
    clear hb2 ld0
    go_wp2_with fail
    refine (wakes9 _).mono ?_
    rintro e w3 ⟨rfl, hb3⟩
    go_wp2
    go_ret
    exact ⟨rfl, bt B2.out hb3⟩
  | false =>
    have h0 : s.taxes.length = 0 := by rcases hg with h | h <;> simp_all
    have HS := hid hs
    have d0 : ((s.taxes.length : Int) == 0) = true := by rw [beq_iff_eq]; omega
    have d2 : (s.taxes.length == 0) = true := by rw [beq_iff_eq]; exact h0
    have HL := hid h0
    obtain ⟨tl, htl⟩ : ∃ tl, s.taxes.length = tl := ⟨_, rfl⟩
    rw [htl] at K1 ld0 d0 d2 HL ⊢
    clear hs hg h0
    go_enter Try.func9, Try.ntmps9
    go_wp2_with fail
    refine (K1.out _).mono ?_
    rintro e w2 ⟨rfl, hb2⟩
    rw [HS.out]
    have B2 := hid ((below_alloc w (.cells #[.string s.name, .slice la s.legs.length lc, .int .i64 s.fare, .slice ta tl tc, .int .i64 s.pen] 49)).trans (hb2.mono (by simp)))
    have k3 := ((Box.new (w := w) (vs := #[.string s.name, .slice la s.legs.length lc, .int .i64 s.fare, .slice ta tl tc, .int .i64 s.pen]) (E := 49) rfl).kept hb2).cell 3 rfl
    clear hb2 ld0
    go_wp2_with fail
    refine (wakes9 _).mono ?_
    rintro e w3 ⟨rfl, hb3⟩
    go_wp2
    go_ret
    exact ⟨rfl, bt B2.out hb3⟩
end Go.Proofs.Ytijldpkchmpjkaa
