/- TicketPrice: the walk where the sale may be. -/
import Derived.Test.YtijldpkchmpjkaaTick17
namespace Go.Proofs.Ytijldpkchmpjkaa
open Go.RowKit Go.Lib Go.Tk Go.Sort Go.Shelf
attribute [-go_sem] loadCellsFrom

set_option maxRecDepth 100000 in
set_option maxHeartbeats 8000000 in
theorem tprice_small (s : SaleV) (A : SaleA) (n : Int) (x : Tax) (w : World) (hs : SaleAt w s A) (ok : SaleOk s) (xo : TaxOk x) (hg : greatB s = false) (he : checkE s n = 0) :
    Calls Try.prog 10 #[saleAgg s A, .int .i64 n, .agg #[.string x.code, .int .i64 x.amt]] w fun e w' => e = .returned (.bool true) ∧ Below w.heap.size w w' := by
  have nn := great_no' hg
  obtain ⟨la, lc, ta, tc⟩ := A
  obtain ⟨hsh, hpr, hmp, hfp, hp0⟩ := price_ok he
  have K1 := hid (fun w' => great_any s ⟨la, lc, ta, tc⟩ w' (by have := nn.1; unfold maxLen; omega) (by have := nn.2.1; unfold maxLen; omega) ok.name)
  have C1 := hid (fun w' (hb : Below w.heap.size w w') => tcheck_any s ⟨la, lc, ta, tc⟩ n w' (hs.kept hb) ok)
  have P1 := hid (fun w' (hb : Below w.heap.size w w') => price_any s ⟨la, lc, ta, tc⟩ w' (hs.kept hb) ok)
  have KO := hid (fun w' (hb : Below w.heap.size w w') => own_any s ⟨la, lc, ta, tc⟩ w' (hs.kept hb) ok.nl ok.nt)
  have KS := hid (fun (Ao : SaleA) w' (hb : Below w.heap.size w w') (ho : SaleAt w' s Ao) => same_any s s ⟨la, lc, ta, tc⟩ Ao w' (hs.kept hb) ho ok.nl ok.nl ok.nt ok.nt)
  have hln : s.taxes.length ≤ 60 := nn.2.1
  have HG := hid hg
  have HS := hid hs
  have OK := hid ok
  have XO := hid xo
  have HE := hid he
  rw [he] at C1
  rw [hpr] at P1
  simp only [decide_true] at KS
  obtain ⟨p, hp⟩ : ∃ p, (priceL s).sum = p := ⟨_, rfl⟩
  rw [hp] at P1 hmp hfp hp0
  have CP := hid (fun w' => check_any p w')
  rw [show errI p = 0 by unfold errI; rw [hmp]; rfl] at CP
  have HP := hid hp
  clear hs ok xo hg nn he hsh hpr hmp hp0 hp
  unfold saleAgg at K1 C1 P1 KO KS ⊢
  dsimp only at K1 C1 P1 KO KS ⊢
  obtain ⟨W1, hW1⟩ : ∃ W1, W1 = (w.alloc (.cells #[.string s.name, .slice la s.legs.length lc, .int .i64 s.fare, .slice ta s.taxes.length tc, .int .i64 s.pen] 49)).alloc (.cells #[.string x.code, .int .i64 x.amt] 60) := ⟨_, rfl⟩
  have xs : Box W1 w.heap.size #[.string s.name, .slice la s.legs.length lc, .int .i64 s.fare, .slice ta s.taxes.length tc, .int .i64 s.pen] := by rw [hW1]; exact (Box.new rfl).kept (below_alloc _ _)
  have xt : Box W1 (w.heap.size + 1) #[.string x.code, .int .i64 x.amt] := by rw [hW1]; exact Box.new (by simp)
  have b1 : Below w.heap.size w W1 := by rw [hW1]; exact bt (below_alloc _ _) (below_alloc _ _)
  have ld0 := box_load (n := 5) xs rfl
  rw [hW1] at ld0
  have HW := hid hW1
  clear hW1
  go_enter Try.func10, Try.ntmps10
  go_wp2_with fail
  rw [← HW.out]
  refine (K1.out _).mono ?_
  rintro e w2 ⟨rfl, hb2⟩
  rw [HG.out]
  have xs2 := xs.kept hb2
  have xt2 := xt.kept hb2
  have ld2 := box_load (n := 5) xs2 rfl
  have b2 := bt b1 hb2
  clear ld0 xs xt b1 hb2
  go_wp2_with fail
  refine (C1.out _ b2).mono ?_
  rintro e w3 ⟨rfl, hb3⟩
  have xs3 := xs2.kept hb3
  have xt3 := xt2.kept hb3
  have ld3 := box_load (n := 5) xs3 rfl
  have b3 := bt b2 hb3
  clear ld2 xs2 xt2 b2 hb3
  go_wp2_with fail
  refine (P1.out _ b3).mono ?_
  rintro e w4 ⟨rfl, hb4⟩
  have XS := hid (xs3.kept hb4)
  have XT := hid (xt3.kept hb4)
  have B4 := hid (bt b3 hb4)
  clear ld3 xs3 xt3 b3 hb4 HW K1 C1 P1
  have d1 : decide (p < s.fare) = false := decide_eq_false (by omega)
  have d1' : ¬ p < s.fare := by omega
  have FF := hid hfp
  clear hfp
  have LS := hid (fun w' (hb : Below w4.heap.size w4 w') => And.intro (box_load (n := 5) (XS.out.kept hb) rfl) ((XS.out.kept hb).cell 2 rfl))
  have b0 := (Below.refl w4.heap.size w4).drew
  have ls := LS.out _ b0
  go_upto_region 7 with fail
  go_cut [59] (fun v wx => v = .bool false ∧ Below w4.heap.size w4 wx)
  case first =>
    go_region_held3 (fun wr => Sem.run Try.prog (loadCellsFrom ⟨w.heap.size, 0, none⟩ 0 5 #[]) wr = .ok #[.string s.name, .slice la s.legs.length lc, .int .i64 s.fare, .slice ta s.taxes.length tc, .int .i64 s.pen] wr ∧ wr.cell? ⟨w.heap.size, 2, none⟩ = some (.int .i64 s.fare) ∧ Below w4.heap.size w4 wr)
      (first
        | exact ⟨ls.1, ls.2, b0⟩
        | exact ⟨(LS.out _ (bt b0 hb5)).1, (LS.out _ (bt b0 hb5)).2, bt b0 hb5⟩
        | exact ⟨(LS.out _ (bt (bt b0 hb5) hb6)).1, (LS.out _ (bt (bt b0 hb5) hb6)).2, bt (bt b0 hb5) hb6⟩
        | exact ⟨(LS.out _ (bt (bt (bt b0 hb5) hb6) hb7)).1, (LS.out _ (bt (bt (bt b0 hb5) hb6) hb7)).2, bt (bt (bt b0 hb5) hb6) hb7⟩)
      (first
        | (go_at_call 15; with_reducible (refine (CP.out _).mono ?_); rintro e w5 ⟨rfl, hb5⟩)
        | (go_at_call 24; have hh := bt B4.out (bt b0 hb5); have h2 := KO.out _ hh; refine h2.mono ?_; rintro e w6 ⟨⟨ya, yc, va, vc⟩, rfl, hown, hb6⟩; unfold saleAgg; dsimp only)
        | (go_at_call 27; with_reducible (refine (KS.out ⟨ya, yc, va, vc⟩ _ (bt B4.out (bt (bt b0 hb5) hb6)) hown.at).mono ?_); rintro e w7 ⟨rfl, hb7⟩))
    all_goals
      go_wp2_with fail
      go_meet
      case rel => exact ⟨rfl, bt (bt (bt b0 hb5) hb6) hb7⟩
  case rest =>
  obtain ⟨rfl, b5⟩ := hcut
  clear ls KS CP d1 d1' b0 FF
  have ls := (LS.out _ b5).1
  go_wp2_with fail
  have hh := bt B4.out b5
  have h2 := KO.out _ hh
  refine h2.mono ?_
  rintro e w6 ⟨⟨ya, yc, va, vc⟩, rfl, hown, hb6⟩
  unfold saleAgg
  dsimp only
  clear h2 hh KO LS ls
  have l2 : w.heap.size + 1 < wc.heap.size := Nat.lt_of_lt_of_le XT.out.lt b5.size
  have bw6 : Below w4.heap.size w4 w6 := bt b5 hb6
  have xs6 := XS.out.kept bw6
  have xt6 := XT.out.kept bw6
  have b6 := bt B4.out bw6
  have O6 := hid hown
  have HJ := hid taxrow
  have l0 := xs6.lt
  have l1 := xt6.lt
  have XS6 := hid xs6
  have XT6 := hid xt6
  have B6 := hid b6
  have HB6 := hid hb6
  clear hown hb6 bw6 xs6 xt6 b6 XS XT B4 b5
  obtain ⟨w7, hw7⟩ : ∃ w7, w7 = w6.alloc (.cells #[.string s.name, .slice ya s.legs.length yc, .int .i64 s.fare, .slice va s.taxes.length vc, .int .i64 s.pen] 49) := ⟨_, rfl⟩
  have yo : Box w7 w6.heap.size #[.string s.name, .slice ya s.legs.length yc, .int .i64 s.fare, .slice va s.taxes.length vc, .int .i64 s.pen] := by rw [hw7]; exact Box.new rfl
  have z7 : w7.heap.size = w6.heap.size + 1 := by rw [hw7]; simp
  have k67 : Below w6.heap.size w6 w7 := by rw [hw7]; exact below_alloc _ _
  have y3 := yo.cell 3 rfl
  have ldt := box_load (n := 2) (XT6.out.kept k67) rfl
  have HW7 := hid hw7
  have K67 := hid k67
  have YO := hid yo
  have y3w := y3
  have ldtw := ldt
  rw [hw7] at y3w ldtw
  clear hw7 k67 yo y3 ldt
  have own7 := hid (ownsRow_below O6.out.taxes K67.out)
  have m1 : s.taxes.length + 1 ≤ maxLen := by unfold maxLen; omega
  have m8 : (s.taxes.length + 1) * 24 ≤ 140737488355328 := by omega
  have own8 := hid (World.ownsRow.alloc own7.out (.cells #[.string x.code, .int .i64 x.amt] 60))
  have hb8 : wc.heap.size ≤ (w7.alloc (.cells #[.string x.code, .int .i64 x.amt] 60)).heap.size := by have := HB6.out.size; simp; omega
  rw [HW7.out] at own8 hb8
  dsimp only at own8
  go_upto_region 11 with (at_builtin; refine wpList_append_row_at rfl _ _ 47 rfl wc.heap.size 60 (.agg #[.string ByteArray.empty, .int .i64 0]) 2 24 Try.underlying47 HJ.out rfl (by decide) (.slice va s.taxes.length vc) s.taxes.length (cellsL encTax s.taxes) rfl own8.out _ 1 1 (encTax x) rfl (by simp) (row_new (by simp)) rfl (encTax_one x) m1 m8 hb8 ?_; intro v1 w8 ho1 hg1 hat1; rw [← HW7.out] at hg1; obtain ⟨a1, c1, rfl, hr1, hn1, -⟩ := owns_slice ho1; have yo8 := (YO.out.kept (below_alloc w7 (.cells #[.string x.code, .int .i64 x.amt] 60))).grown hg1 (fun e => by have h9 := O6.out.taxes.lt _ e; omega); have f3 := yo8.free 3; have y3 := yo8.cell 3 rfl)
  have W8 : Hid (Box (w7.alloc (.cells #[.string x.code, .int .i64 x.amt] 60)) w.heap.size _ ∧ Box (w7.alloc (.cells #[.string x.code, .int .i64 x.amt] 60)) (w.heap.size + 1) _) := ⟨(XS6.out.kept K67.out).kept (below_alloc _ _), (XT6.out.kept K67.out).kept (below_alloc _ _)⟩
  have ne1 : ∀ q, q < wc.heap.size → (Value.slice va s.taxes.length vc).ownBlock ≠ some q := fun q hq e => by have := (O6.out.taxes.lt _ e).1; omega
  have xs9 := (W8.out.1.grown hg1 (ne1 _ (by omega))).other (b' := w6.heap.size) (i := 3) (u := .slice a1 (s.taxes.length + 1) c1) (by omega)
  have xt9 := (W8.out.2.grown hg1 (ne1 _ (by omega))).other (b' := w6.heap.size) (i := 3) (u := .slice a1 (s.taxes.length + 1) c1) (by omega)
  have yo9 : Box (w8.setCell ⟨w6.heap.size, 3, none⟩ (.slice a1 (s.taxes.length + 1) c1)) w6.heap.size #[.string s.name, .slice ya s.legs.length yc, .int .i64 s.fare, .slice a1 (s.taxes.length + 1) c1, .int .i64 s.pen] := yo8.set 3 (.slice a1 (s.taxes.length + 1) c1)
  have lg8 := ownsRow_other (v := .slice va s.taxes.length vc) (World.ownsRow.alloc (ownsRow_below O6.out.legs K67.out) (.cells #[.string x.code, .int .i64 x.amt] 60)) hg1 O6.out.apart.symm
  have lg9 := lg8.kept (grownBy_setCell' w8 w6.heap.size 3 (.slice a1 (s.taxes.length + 1) c1)) (by
    cases hq : (Value.slice ya s.legs.length yc).ownBlock with
    | none => exact .inl rfl
    | some g => exact .inr (by have := (O6.out.legs.lt g hq).2; simp; omega))
  have b9 : Below w.heap.size w (w8.setCell ⟨w6.heap.size, 3, none⟩ (.slice a1 (s.taxes.length + 1) c1)) :=
    (((bt B6.out K67.out).alloc (by have := B6.out.size; have := K67.out.size; omega) _).grown hg1 (by have := B6.out.size; have := K67.out.size; simp; omega) (fun g e => by have := (O6.out.taxes.lt g e).1; omega)).setCell (by have := B6.out.size; show w.heap.size ≤ w6.heap.size; omega) _
  have tx9 := ho1.kept (grownBy_setCell' w8 w6.heap.size 3 (.slice a1 (s.taxes.length + 1) c1)) (by
    cases hq : (Value.slice a1 (s.taxes.length + 1) c1).ownBlock with
    | none => exact .inl rfl
    | some g =>
      refine .inr ?_
      rcases hat1 with h | h
      · rw [hq] at h
        have := (O6.out.taxes.lt g h.symm).2
        simp; omega
      · rw [hq] at h
        cases h
        rw [← HW7.out]
        simp [z7]
        omega)
  generalize w8.setCell ⟨w6.heap.size, 3, none⟩ (.slice a1 (s.taxes.length + 1) c1) = w9 at *
  have so9 : SaleAt w9 (addT s x) ⟨ya, yc, a1, c1⟩ := by
    obtain ⟨_, _, e9, hr9, hn9, -⟩ := owns_slice lg9
    cases e9
    obtain ⟨_, _, e9, hr8, hn8, -⟩ := owns_slice tx9
    cases e9
    refine ⟨hr9, ?_, hn9, hn8⟩
    show Row w9 a1 (cellsL encTax (s.taxes ++ [x]))
    rw [cellsL_snoc]
    exact hr8
  have ss9 : SaleAt w9 s ⟨la, lc, ta, tc⟩ := HS.out.kept b9
  have okT : SaleOk (addT s x) := ⟨OK.out.name, OK.out.legs, fun t ht => by
    rcases List.mem_append.1 ht with h | h
    · exact OK.out.taxes t h
    · rw [List.mem_singleton.1 h]; exact XO.out, OK.out.fare, OK.out.pen, OK.out.nl, by simp [addT]; omega⟩
  have elen : (addT s x).taxes.length = s.taxes.length + 1 := by simp [addT]
  have ene : decide (s = addT s x) = false := decide_eq_false (fun e => by have := congrArg (fun q => q.taxes.length) e; simp only [elen] at this; omega)
  have C2 := hid (fun w' (hb : Below w9.heap.size w9 w') => tcheck_any (addT s x) ⟨ya, yc, a1, c1⟩ n w' (so9.kept hb) okT)
  have P2 := hid (fun w' (hb : Below w9.heap.size w9 w') => price_any (addT s x) ⟨ya, yc, a1, c1⟩ w' (so9.kept hb) okT)
  have S2 := hid (fun w' (hb : Below w9.heap.size w9 w') => same_any s (addT s x) ⟨la, lc, ta, tc⟩ ⟨ya, yc, a1, c1⟩ w' (ss9.kept hb) (so9.kept hb) OK.out.nl okT.nl OK.out.nt okT.nt)
  rw [ene] at S2
  obtain ⟨pq, hpq⟩ : ∃ pq, sumFrom 0 (priceL (addT s x)) = pq := ⟨_, rfl⟩
  obtain ⟨ce, hce⟩ : ∃ ce, checkE (addT s x) n = ce := ⟨_, rfl⟩
  rw [hpq] at P2
  rw [hce] at C2
  unfold saleAgg at C2 P2 S2
  rw [elen] at C2 P2 S2
  dsimp only [addT] at C2 P2 S2
  have HPQ := hid hpq
  have HCE := hid hce
  have XS9 := hid xs9
  have XT9 := hid xt9
  have YO9 := hid yo9
  have B9 := hid b9
  have l6 : w6.heap.size < w9.heap.size := yo9.lt
  clear hpq hce ene elen okT so9 ss9 tx9 lg9 lg8 b9 xs9 xt9 yo9 ho1 hg1 hat1 hr1 hn1 yo8 f3 y3 ne1 W8 own8 hb8 own7 ldtw y3w YO K67 HW7 O6 HJ
  have ls := box_load (n := 5) YO9.out rfl
  go_wp2_with fail
  refine (P2.out _ (Below.refl _ _)).mono ?_
  rintro e w10 ⟨rfl, hb10⟩
  have ls := box_load (n := 5) (XS9.out.kept hb10) rfl
  have lo := box_load (n := 5) (YO9.out.kept hb10) rfl
  go_wp2_with fail
  refine (S2.out _ hb10).mono ?_
  rintro e w11 ⟨rfl, hb11⟩
  have b11 := bt hb10 hb11
  clear ls lo hb10 hb11
  have lo := box_load (n := 5) (YO9.out.kept b11) rfl
  go_wp2_with fail
  refine (C2.out _ b11).mono ?_
  rintro e w12 ⟨rfl, hb12⟩
  have b12 := bt b11 hb12
  clear lo b11 hb12
  have xt12 := XT9.out.kept b12
  have yo12 := YO9.out.kept b12
  have t0 := xt12.cell 0 rfl
  have t1 := xt12.cell 1 rfl
  have y3 := yo12.cell 3 rfl
  have B12 := hid (B9.out.trans (b12.mono B9.out.size))
  clear xt12 yo12 b12 XS9 XT9 YO9 B9 C2 P2 S2 XS6 XT6 B6 HB6
  by_cases hz : ce = 0
  case pos =>
    subst hz
    obtain ⟨e1, e2⟩ := add_ok HCE.out
    obtain ⟨-, -, hm, -, -⟩ := price_ok HCE.out
    rw [priceL_addT, HP.out] at hm
    rw [HP.out, HPQ.out] at e1
    subst e1
    obtain ⟨m1', m2'⟩ := mayI_of hm
    have e3 : ((s.taxes.length : Int) + 1) ≤ 4 := by omega
    clear hm HCE HPQ HP HE m1 m8
    go_wp2_with fail
    refine (wakes9 _).mono ?_
    rintro e w13 ⟨rfl, hb13⟩
    go_wp2
    go_ret
    exact ⟨rfl, bt B12.out hb13⟩
  case neg =>
  have hz' : (ce == 0) = false := by simpa using hz
  have fin : ∀ (w13 : World), Below w12.heap.size w12 w13 → Below w.heap.size w w13 := fun w13 h => bt B12.out h
  have FIN := hid fin
  clear fin
  by_cases c1' : 4 < s.taxes.length + 1
  · have e3 : (4 : Int) < (s.taxes.length : Int) + 1 := by omega
    clear HCE HPQ HP HE m1 m8 hz
    go_wp2_with fail
    refine (wakes9 _).mono ?_
    rintro e w13 ⟨rfl, hb13⟩
    go_wp2
    go_ret
    exact ⟨rfl, FIN.out _ hb13⟩
  have e3 : ¬ (4 : Int) < (s.taxes.length : Int) + 1 := by omega
  by_cases c2' : x.code.size = 2
  case neg =>
    have e4 : ((x.code.size : Int) != 2) = true := by rw [bne_iff_ne]; omega
    clear HCE HPQ HP HE m1 m8 hz
    go_wp2_with fail
    refine (wakes9 _).mono ?_
    rintro e w13 ⟨rfl, hb13⟩
    go_wp2
    go_ret
    exact ⟨rfl, FIN.out _ hb13⟩
  case pos =>
  obtain ⟨c0, d0, hcd⟩ : ∃ c0 d0, x.code = ⟨#[c0, d0]⟩ := by
    obtain ⟨⟨⟨l⟩⟩, amt⟩ := x
    match l, c2' with
    | [c0, d0], _ => exact ⟨c0, d0, rfl⟩
    | [], h => simp [ByteArray.size] at h
    | [_], h => simp [ByteArray.size] at h
    | _ :: _ :: _ :: _, h => simp [ByteArray.size] at h
  have hno := fun (h1 : 0 ≤ x.amt) (h2 : pq.2 = 0) => add_no (x := x) HE.out (by rw [HCE.out]; exact hz) (by omega) c2' h1 (by rw [HPQ.out]; exact h2)
  rw [hcd] at hno
  have t0' := t0.trans (congrArg some (congrArg Value.string hcd))
  clear t0
  have HNO := hid hno
  clear hno HCE HPQ HP HE m1 m8 hz hcd c2'
  by_cases c3' : x.amt < 0
  · go_wp2_with fail
    refine (wakes9 _).mono ?_
    rintro e w13 ⟨rfl, hb13⟩
    go_wp2
    go_ret
    exact ⟨rfl, FIN.out _ hb13⟩
  have c3 : 0 ≤ x.amt := by omega
  by_cases c4' : pq.2 = 0
  case neg =>
    have e4 : (pq.2 != 0) = true := by simpa using c4'
    clear HNO
    go_wp2_with fail
    refine (wakes9 _).mono ?_
    rintro e w13 ⟨rfl, hb13⟩
    go_wp2
    go_ret
    exact ⟨rfl, FIN.out _ hb13⟩
  case pos =>
  have hl := HNO.out c3 c4'
  have hb : ((c0.toNat : Int) < 65 ∨ (90 : Int) < (c0.toNat : Int)) ∨ (¬ (c0.toNat : Int) < 65 ∧ ¬ (90 : Int) < (c0.toNat : Int)) ∧ ((d0.toNat : Int) < 65 ∨ (90 : Int) < (d0.toNat : Int)) := by
    have hl' : (upB c0 && upB d0) = false := by simpa [lettersB, letB] using hl
    simp only [upB, Bool.and_eq_false_iff, decide_eq_false_iff_not] at hl'
    omega
  clear HNO hl
  have q1 : decide ((4 : Int) < (s.taxes.length : Int) + 1) = false := decide_eq_false e3
  have q2 : decide (x.amt < 0) = false := decide_eq_false c3'
  have e0 : ∀ h, (⟨#[c0, d0]⟩ : ByteArray)[0]'h = c0 := fun _ => rfl
  have e1 : ∀ h, (⟨#[c0, d0]⟩ : ByteArray)[1]'h = d0 := fun _ => rfl
  rcases hb with (h | h) | ⟨⟨h1, h2⟩, (h | h)⟩
  all_goals
    go_wp2_with fail
    all_goals first
      | (refine (wakes9 _).mono ?_
         rintro e w13 ⟨rfl, hb13⟩
         go_wp2
         go_ret
         exact ⟨ret_bool (by first | rfl | (simp [q1, q2, *]; done) | (simp [q1, q2, *]; omega)), FIN.out _ hb13⟩)
      | (exfalso
         simp only [e0, e1] at *
         omega)
end Go.Proofs.Ytijldpkchmpjkaa
