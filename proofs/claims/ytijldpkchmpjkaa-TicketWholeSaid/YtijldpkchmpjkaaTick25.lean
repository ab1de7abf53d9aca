/- TicketWhole: the walk where a ticket is sold: its rounds. -/
import Derived.Test.YtijldpkchmpjkaaTick24
namespace Go.Proofs.Ytijldpkchmpjkaa
open Go.RowKit Go.Lib Go.Tk Go.Sort Go.Shelf
attribute [-go_sem] loadCellsFrom

set_option maxRecDepth 100000 in
set_option maxHeartbeats 16000000 in
theorem whole_some (c r n : Int) (s : SaleV) (A : SaleA) (wa : Option Addr) (wl : List Bool) (wc : Nat) (w : World) (hs : SaleAt w s A) (ok : SaleOk s) (hc0 : 0 ≤ c) (hc1 : c ≤ 255) (hg : greatB s = false) (hw : Row w wa (wl.map .bool)) (h4 : wl.length ≤ 60) (he : makeE c r s n = 0)
    (V : List Int) (hV : shareL s.fare (wsOf s) = V) (hVl : V.length = s.legs.length) (h1 : 1 ≤ s.legs.length) (h2 : s.legs.length ≤ 4) (f0 : 0 ≤ s.fare) (f1 : s.fare ≤ 1125899906842624) (p0 : 0 ≤ s.pen) (p1 : s.pen ≤ 1125899906842624)
    (hnn : ∀ x ∈ V, 0 ≤ x) (hsum : V.sum = s.fare) (hsf : sumFrom 0 V = (s.fare, 0)) :
    Calls Try.prog 12 #[.agg #[.int .u8 c, .int .u64 r], saleAgg s A, .int .i64 n, .slice wa wl.length wc] w fun e w' => e = .returned (.bool true) ∧ Below w.heap.size w w' := by
  obtain ⟨la, lc, ta, tc⟩ := A
  have gn := great_no9 hg
  have K1 := hid (fun w' => great_any s ⟨la, lc, ta, tc⟩ w' (by unfold maxLen; omega) (by unfold maxLen; omega) ok.name)
  have KM := hid (fun w' (hb : Below w.heap.size w w') => make_any c r n s ⟨la, lc, ta, tc⟩ w' (hs.kept hb) ok hc0 hc1)
  have KS := hid (fun w' a c (hr : Row w' a (V.map (.int .i64))) => sum_anyN a s.legs.length c V w' hVl hr (by omega))
  rw [hsf] at KS
  have KB := hid (fun (D : DocA) (bk kp : Int) (st : List Int) (hst : st.length = s.legs.length) sa sc pa pc w' (hr : Row w' sa (st.map (.int .u8))) (hv : Row w' D.va (V.map (.int .i64))) => balance_anyV (dV c r s V bk kp) D st sa s.legs.length sc pa s.legs.length pc w' hst hr hv (by omega) (by show V.length ≤ 1000; omega) (by omega))
  have HW9 := hid hw
  have HG := hid hg
  have HE := hid he
  have HVS := hid hV
  have HVL := hid hVl
  have HNN := hid hnn
  have HSUM := hid hsum
  clear hs ok hg gn he hw hV hnn hsum hsf hVl
  unfold saleAgg at K1 KM ⊢
  dsimp only at K1 KM ⊢
  obtain ⟨W1, hW1⟩ : ∃ W1, W1 = (w.alloc (.cells #[.int .u8 c, .int .u64 r] 45)).alloc (.cells #[.string s.name, .slice la s.legs.length lc, .int .i64 s.fare, .slice ta s.taxes.length tc, .int .i64 s.pen] 49) := ⟨_, rfl⟩
  have xt : Box W1 w.heap.size #[.int .u8 c, .int .u64 r] := by rw [hW1]; exact (Box.new rfl).kept (below_alloc _ _)
  have xs : Box W1 (w.heap.size + 1) #[.string s.name, .slice la s.legs.length lc, .int .i64 s.fare, .slice ta s.taxes.length tc, .int .i64 s.pen] := by rw [hW1]; exact Box.new (by simp)
  have b1 : Below w.heap.size w W1 := by rw [hW1]; exact bt (below_alloc _ _) (below_alloc _ _)
  have ld := box_whole (n := 5) xs rfl
  rw [hW1] at ld
  have HW := hid hW1
  clear hW1
  go_enter Try.func12, Try.ntmps12
  go_wp2_with fail
  rw [← HW.out]
  refine (K1.out _).mono ?_
  rintro e w2 ⟨rfl, hb2⟩
  rw [HG.out]
  have B2 := hid (bt b1 hb2)
  have XS2 := hid (xs.kept hb2)
  have XT2 := hid (xt.kept hb2)
  clear ld
  have ld := box_whole (n := 5) XS2.out rfl
  have lt := box_whole (n := 2) XT2.out rfl
  clear b1 hb2 HW K1 xs xt
  go_wp2_with fail
  refine (KM.out _ B2.out).mono ?_
  rintro e w3 (⟨-, D, va, vc, rfl, -, hrv, hb3⟩ | ⟨h0, -⟩)
  case inr => exact absurd HE.out h0
  rw [HVS.out] at hrv
  rw [madeDocV]
  have XS3 := hid (XS2.out.kept hb3)
  have XT3 := hid (XT2.out.kept hb3)
  have B3 := hid (bt B2.out hb3)
  have RV3 := hid hrv
  have VB := hid (show ∀ x, va = some x → x.block < w3.heap.size by
    intro x hx
    obtain ⟨b, off, hb, hcell⟩ := hrv 0 (by have := HVL.out; simp; omega)
    rw [hx] at hb
    cases hb
    exact lt_of_cell hcell)
  clear KM B2 hb3 ld lt hrv XS2 XT2 HE HG
  obtain ⟨dla, dlc, dta, dtc⟩ := D
  unfold dAr
  dsimp only
  obtain ⟨W4, hW4⟩ : ∃ W4, W4 = w3.alloc (.cells (dAr c r s ⟨dla, dlc, dta, dtc⟩ va vc 0 0) 54) := ⟨_, rfl⟩
  have xd : Box W4 w3.heap.size (dAr c r s ⟨dla, dlc, dta, dtc⟩ va vc 0 0) := by rw [hW4]; exact Box.new rfl
  have k34 : Below w3.heap.size w3 W4 := by rw [hW4]; exact below_alloc _ _
  unfold dAr at hW4
  dsimp only at hW4
  have kv : W4.cell? ⟨w3.heap.size, 7, none⟩ = some (.slice va s.legs.length vc) := xd.cell 7 rfl
  rw [hW4] at kv
  have XD4 := hid xd
  have K34 := hid k34
  have HW := hid hW4
  clear hW4 xd k34
  go_wp2_with fail
  rw [← HW.out]
  refine (KS.out _ _ _ (RV3.out.kept K34.out)).mono ?_
  rintro e w5 ⟨rfl, hb5⟩
  have b5 := bt K34.out hb5
  have xd := XD4.out.kept hb5
  have xs := XS3.out.kept b5
  have xt := XT3.out.kept b5
  have l0 := XT3.out.lt
  have l1 := XS3.out.lt
  have l2 := xd.lt
  clear kv
  have kv : w5.cell? ⟨w3.heap.size, 7, none⟩ = some (.slice va s.legs.length vc) := xd.cell 7 rfl
  have kp : w5.cell? ⟨w3.heap.size, 13, none⟩ = some (.int .i64 s.fare) := xd.cell 13 rfl
  have kf : w5.cell? ⟨w.heap.size + 1, 2, none⟩ = some (.int .i64 s.fare) := xs.cell 2 rfl
  have kl : w5.cell? ⟨w.heap.size + 1, 1, none⟩ = some (.slice la s.legs.length lc) := xs.cell 1 rfl
  have lt1 := box_whole (n := 2) xt rfl
  have lt2 : Sem.run Try.prog (loadCellsFrom ⟨w3.heap.size, 0, none⟩ 0 2 #[]) w5 = .ok #[.int .u8 c, .int .u64 r] w5 := box_part xd _ rfl (fun j v hj => by
    rcases j with _ | _ | j
    · exact hj
    · exact hj
    · simp at hj)
  have RV5 := hid (RV3.out.kept b5)
  have XD5 := hid xd
  have XS5 := hid xs
  have XT5 := hid xt
  have B5 := hid (bt B3.out b5)
  clear xd xs xt b5 hb5 RV3 XD4 XS3 XT3 B3 K34 HW KS
  have mk1 := make_st s.legs.length (by omega)
  have mk2 := make_pd s.legs.length (by omega)
  go_wp2_with fail
  obtain ⟨w6, hw6⟩ : ∃ w6, w6 = (w5.alloc (.cells (Array.replicate s.legs.length (Value.int .u8 0)) 72)).alloc (.cells (Array.replicate s.legs.length (Value.bool false)) 4) := ⟨_, rfl⟩
  have ST := hid (show WhAt w w6 c r s ⟨la, lc, ta, tc⟩ ⟨dla, dlc, dta, dtc⟩ w3.heap.size w5.heap.size (w5.heap.size + 1) va vc V 0 0 (List.replicate s.legs.length 0) (List.replicate s.legs.length false) by
    have k1 := below_alloc w5 (.cells (Array.replicate s.legs.length (Value.int .u8 0)) 72)
    have k2 := below_alloc (w5.alloc (.cells (Array.replicate s.legs.length (Value.int .u8 0)) 72)) (.cells (Array.replicate s.legs.length (Value.bool false)) 4)
    have k := bt k1 k2
    rw [← hw6] at k k2
    refine ⟨XT5.out.kept k, XS5.out.kept k, XD5.out.kept k, ?_, ?_, RV5.out.kept k, VB.out, bt B5.out k, by omega, by omega, by omega⟩
    · rw [← rep_ints]; exact (Box.new rfl).kept k2
    · rw [← rep_bools, hw6]; exact Box.new (by simp))
  rw [← hw6]
  clear mk1 mk2 kv kp kf kl lt1 lt2 RV5 XD5 XS5 XT5 B5 l0 l1 l2 VB hw6
  generalize w5.heap.size = g at *
  generalize w3.heap.size = b at *
  go_loopw [15] (fun s15 wr => ∃ (k : Nat) (st : List Int), k ≤ s.legs.length ∧ s15 = .int .i64 k ∧ Hid (st.length = s.legs.length) ∧ Hid (∀ i, i < k → st.getD i 0 = 1) ∧ Aside (WhAt w wr c r s ⟨la, lc, ta, tc⟩ ⟨dla, dlc, dta, dtc⟩ b g (g + 1) va vc V 0 0 st (List.replicate s.legs.length false))) (fun i _ => s.legs.length - (intOf i).toNat)
  case atStart => exact ⟨0, List.replicate s.legs.length 0, Nat.zero_le _, rfl, hid (by simp), fun i h => absurd h (by omega), ST.out⟩
  case round =>
    obtain ⟨k, st, hk, rfl, HL, HO, S1⟩ := hrel
    by_cases hlt : k < s.legs.length
    · have x1 := S1.out.x1
      have c1 := x1.cell k (v := .int .u8 (st.getD k 0)) (by have := HL.out; simp [List.getD_eq_getElem?_getD, show k < st.length by omega])
      have f1 := x1.free k
      clear x1
      go_wp2
      go_roundw
      case measure => simp [intOf]; omega
      case rel => exact ⟨k + 1, st.set k 1, by omega, by go_num, hid (by rw [List.length_set]; exact HL.out), hid (fun i hi => by
          have := HL.out
          by_cases h : i = k
          · subst h; simp [List.getD_eq_getElem?_getD, show i < st.length by omega]
          · have := HO.out i (by omega)
            rw [← this]
            simp [List.getD_eq_getElem?_getD, Ne.symm h]), S1.out.set1 k 1⟩
    · obtain rfl : k = s.legs.length := by omega
      have hst : st = List.replicate s.legs.length 1 := by
        refine List.ext_getElem (by rw [HL.out]; simp) fun i h1 h2 => ?_
        have := HO.out i (by have := HL.out; omega)
        simpa [List.getD_eq_getElem?_getD, h1] using this
      subst hst
      have SB := hid S1.out
      have xd := SB.out.xd
      have ld : Sem.run Try.prog (loadCellsFrom ⟨b, 0, none⟩ 0 17 #[]) wr = .ok (dAr c r s ⟨dla, dlc, dta, dtc⟩ va vc 0 0) wr := box_whole xd rfl
      unfold dAr at ld
      dsimp only at ld
      clear ST xd HL HO S1
      obtain ⟨w7, hw7⟩ : ∃ w7, w7 = wr := ⟨_, rfl⟩
      subst hw7
      have B1 := hid (KB.out ⟨⟨dla, dlc, dta, dtc⟩, va, vc⟩ 0 0 (List.replicate s.legs.length 1) (by simp) (some ⟨g, 0, none⟩) s.legs.length (some ⟨g + 1, 0, none⟩) s.legs.length w7 (row_box SB.out.x1) SB.out.v)
      rw [dV_agg HVL.out, show balI (dV c r s V 0 0) (List.replicate s.legs.length 1) s.legs.length = (0, 0) by
        have := whole_start (d := dV c r s V 0 0) rfl rfl f1 rfl rfl HNN.out HSUM.out
        rw [← HVL.out]; exact this] at B1
      unfold dAr at B1
      dsimp only at B1
      go_wp2_with fail
      refine B1.out.mono ?_
      rintro e w8 ⟨rfl, hb8⟩
      have S8 := hid (SB.out.kept hb8)
      clear SB B1 hb8 ld
      have HWL := hid (rfl : whB wl = whB wl)
      go_wp2_with fail
      go_loopw [18] (fun s18 wr => ∃ (k : Nat) (pd : List Bool), k ≤ s.legs.length ∧ s18 = .int .i64 k ∧ Hid (pd.length = s.legs.length) ∧ Aside (WhAt w wr c r s ⟨la, lc, ta, tc⟩ ⟨dla, dlc, dta, dtc⟩ b g (g + 1) va vc V (backW wl V s.pen k) (keptW wl V s.pen k) (stW wl s.legs.length k) pd)) (fun i _ => s.legs.length - (intOf i).toNat)
      case atStart => exact ⟨0, List.replicate s.legs.length false, Nat.zero_le _, rfl, hid (by simp), by rw [stW_zero]; exact S8.out⟩
      case round =>
        clear S8
        obtain ⟨k, pd, hk, rfl, HP, S1⟩ := hrel
        by_cases hlt : k < s.legs.length
        · have x1 := S1.out.x1
          have c1 := x1.cell k (v := .int .u8 (stAt wl k k)) (by simp [stW, hlt])
          have f1 := x1.free k
          obtain ⟨bb, off, rfl, cv⟩ := int_at S1.out.v (i := k) (by have := HVL.out; omega)
          have xd := S1.out.xd
          have kv : wr.cell? ⟨b, 7, none⟩ = some (.slice (some ⟨bb, off, none⟩) s.legs.length vc) := xd.cell 7 rfl
          have ey : V[k]'(by have := HVL.out; omega) = V.getD k 0 := by simp [List.getD_eq_getElem?_getD, show k < V.length by have := HVL.out; omega]
          rw [ey] at cv
          have y0 := nn_getD HNN.out k
          have y1 : V.getD k 0 ≤ s.fare := by
            have := le_sum V HNN.out _ (List.getElem_mem (show k < V.length by have := HVL.out; omega))
            rw [ey, HSUM.out] at this; exact this
          have kpen : wr.cell? ⟨w.heap.size + 1, 4, none⟩ = some (.int .i64 s.pen) := S1.out.xs.cell 4 rfl
          have kb : wr.cell? ⟨b, 14, none⟩ = some (.int .i64 (backW wl V s.pen k)) := xd.cell 14 rfl
          have kk : wr.cell? ⟨b, 15, none⟩ = some (.int .i64 (keptW wl V s.pen k)) := xd.cell 15 rfl
          have fb := xd.free 14
          have fk := xd.free 15
          clear x1 xd ey
          have SS := hid (stW_succ wl hlt)
          have SB := hid (backW_succ wl V s.pen k)
          have SK := hid (keptW_succ wl V s.pen k)
          by_cases hwb : whB wl k = true
          case neg =>
            have x2 := S1.out.x2
            have c2 := x2.cell k (v := .bool (pd.getD k false)) (by have := HP.out; simp [List.getD_eq_getElem?_getD, show k < pd.length by omega])
            have f2 := x2.free k
            clear x2 cv kv kpen kb kk fb fk y0 y1
            have NW := hid hwb
            by_cases hkl : k < wl.length
            · have cw : ∃ bw offw, wa = some ⟨bw, offw, none⟩ ∧ wr.cell? ⟨bw, offw + k, none⟩ = some (.bool false) := by
                obtain ⟨bw, offw, hb, hc⟩ := (HW9.out.kept S1.out.bel) k (by simpa using hkl)
                refine ⟨bw, offw, hb, ?_⟩
                rw [hc]
                have : wl[k] = false := by
                  unfold whB at hwb
                  simpa [List.getD_eq_getElem?_getD, hkl] using hwb
                simp [List.getD_eq_getElem?_getD, hkl, this]
              obtain ⟨bw, offw, rfl, cw⟩ := cw
              clear hwb
              go_wp2
              go_roundw
              case measure => simp [intOf]; omega
              case rel =>
                refine ⟨k + 1, ?pd, by omega, by go_num, ?len, ?lies⟩
                case lies =>
                  rw [SB.out, SK.out, SS.out, if_neg NW.out]
                  unfold gvAt gkAt
                  rw [if_neg NW.out, if_neg NW.out, Int.add_zero, Int.add_zero]
                  exact (S1.out.set2 k _).set1 k 4
                case len => exact hid (by rw [List.length_set]; exact HP.out)
            · clear hwb
              go_wp2
              go_roundw
              case measure => simp [intOf]; omega
              case rel =>
                refine ⟨k + 1, ?pd, by omega, by go_num, ?len, ?lies⟩
                case lies =>
                  rw [SB.out, SK.out, SS.out, if_neg NW.out]
                  unfold gvAt gkAt
                  rw [if_neg NW.out, if_neg NW.out, Int.add_zero, Int.add_zero]
                  exact (S1.out.set2 k _).set1 k 4
                case len => exact hid (by rw [List.length_set]; exact HP.out)
          case pos =>
            have WY := hid hwb
            have hkl : k < wl.length := by
              by_cases h : k < wl.length
              · exact h
              · unfold whB at hwb
                rw [List.getD_eq_getElem?_getD, List.getElem?_eq_none (by omega)] at hwb
                cases hwb
            have cw : ∃ bw offw, wa = some ⟨bw, offw, none⟩ ∧ wr.cell? ⟨bw, offw + k, none⟩ = some (.bool true) := by
              obtain ⟨bw, offw, hb, hc⟩ := (HW9.out.kept S1.out.bel) k (by simpa using hkl)
              refine ⟨bw, offw, hb, ?_⟩
              rw [hc]
              have : wl[k] = true := by
                unfold whB at hwb
                simpa [List.getD_eq_getElem?_getD, hkl] using hwb
              simp [List.getD_eq_getElem?_getD, hkl, this]
            obtain ⟨bw, offw, rfl, cw⟩ := cw
            clear hwb
            have KG := hid (fun w' => give_any (V.getD k 0) s.pen w' (by omega) (by omega))
            obtain ⟨gp1, gp2, gp3, gp4⟩ := give_parts y0 p0
            have PA := parts_at wl HNN.out p0 k
            have hts := take_sum_leW HNN.out (k + 1)
            rw [take_sum_succ, HSUM.out] at hts
            have EG := hid (show gvAt wl V s.pen k = giveV (V.getD k 0) s.pen by unfold gvAt; rw [if_pos WY.out])
            have EK := hid (show gkAt wl V s.pen k = giveK (V.getD k 0) s.pen by unfold gkAt; rw [if_pos WY.out])
            have ES := hid (show (if whB wl k = true then (6 : Int) else 4) = 6 by rw [if_pos WY.out])
            have S6 := hid (S1.out.set1 k 6)
            clear S1 cv kv kpen kb kk fb fk
            go_upto_region 25 with fail
            rw [EG.out] at SB
            rw [EK.out] at SK
            rw [ES.out] at SS
            clear c1 f1 cw HW9 EG EK ES WY
            generalize wr.setCell ⟨g, k, none⟩ (.int .u8 6) = wy at *
            generalize giveV (V.getD k 0) s.pen = gv at *
            generalize giveK (V.getD k 0) s.pen = gk at *
            generalize hbk : backW wl V s.pen k = bk at *
            generalize hkp : keptW wl V s.pen k = kp at *
            have cv : wy.cell? ⟨bb, off + k, none⟩ = some (.int .i64 (V.getD k 0)) := by
              obtain ⟨bb', off', he, hc⟩ := int_at S6.out.v (i := k) (by have := HVL.out; omega)
              cases he
              rw [hc]
              simp [List.getD_eq_getElem?_getD, show k < V.length by have := HVL.out; omega]
            have xd := S6.out.xd
            have kv : wy.cell? ⟨b, 7, none⟩ = some (.slice (some ⟨bb, off, none⟩) s.legs.length vc) := xd.cell 7 rfl
            have kpen : wy.cell? ⟨w.heap.size + 1, 4, none⟩ = some (.int .i64 s.pen) := S6.out.xs.cell 4 rfl
            have kb : wy.cell? ⟨b, 14, none⟩ = some (.int .i64 bk) := xd.cell 14 rfl
            have kk : wy.cell? ⟨b, 15, none⟩ = some (.int .i64 kp) := xd.cell 15 rfl
            have fb := xd.free 14
            have fk := xd.free 15
            generalize V.getD k 0 = y at *
            clear xd
            go_cut [19, 20] (fun s19 s20 wx => s19 = .int .i64 gv ∧ s20 = .int .i64 gk ∧ Below wy.heap.size wy wx)
            case first =>
              go_region_with (go_at_call 28; refine (KG.out _).mono ?_; rintro e w5 ⟨rfl, rfl⟩)
              all_goals
                go_wp2
                go_meet
                case rel => exact ⟨rfl, rfl, (Below.refl _ _).drew⟩
            case rest =>
            obtain ⟨rfl, rfl, hbx⟩ := hcut
            have S7 := hid (S6.out.kept hbx)
            have cv' := cell_kept hbx cv
            have kv' := cell_kept hbx kv
            have kpen' := cell_kept hbx kpen
            have kb' := cell_kept hbx kb
            have kk' := cell_kept hbx kk
            clear cv kv kpen kb kk fb fk S6 KG hbx
            have fb := S7.out.xd.free 14
            have fk := S7.out.xd.free 15
            have qe : (gv + gk != y) = false := by rw [gp3]; simp
            have z1 : 0 ≤ bk + gv := by omega
            have z2 : bk + gv ≤ 1125899906842624 := by omega
            have z3 : 0 ≤ kp + gk := by omega
            have z4 : kp + gk ≤ 1125899906842624 := by omega
            have z5 : gv ≤ 1125899906842624 := by omega
            have z6 : gk ≤ 1125899906842624 := by omega
            have z7 : 0 ≤ gv + gk := by omega
            have z8 : gv + gk ≤ 1125899906842624 := by omega
            have z9 : ¬ s.pen < gk := by omega
            clear gp3 PA hts hbk hkp
            go_wp2_with fail
            go_roundw
            case measure => simp [intOf]; omega
            case rel => exact ⟨k + 1, pd, by omega, by go_num, HP, by
              rw [SB.out, SK.out, SS.out]
              exact (S7.out.setD (bk' := bk + gv) (kp' := kp) 14 _ rfl).setD (bk' := bk + gv) (kp' := kp + gk) 15 _ rfl⟩
        · obtain rfl : k = s.legs.length := by omega
          have ST := hid S1.out
          have xd := ST.out.xd
          have ld : Sem.run Try.prog (loadCellsFrom ⟨b, 0, none⟩ 0 17 #[]) wr = .ok (dAr c r s ⟨dla, dlc, dta, dtc⟩ va vc (backW wl V s.pen s.legs.length) (keptW wl V s.pen s.legs.length)) wr := box_whole xd rfl
          unfold dAr at ld
          dsimp only at ld
          clear xd S1 HP
          obtain ⟨w9, hw9⟩ : ∃ w9, w9 = wr := ⟨_, rfl⟩
          subst hw9
          have B1 := hid (KB.out ⟨⟨dla, dlc, dta, dtc⟩, va, vc⟩ (backW wl V s.pen s.legs.length) (keptW wl V s.pen s.legs.length) (stW wl s.legs.length s.legs.length) (stW_len _ _ _) (some ⟨g, 0, none⟩) s.legs.length (some ⟨g + 1, 0, none⟩) s.legs.length w9 (row_box ST.out.x1) ST.out.v)
          rw [dV_agg HVL.out, show balI (dV c r s V (backW wl V s.pen s.legs.length) (keptW wl V s.pen s.legs.length)) (stW wl s.legs.length s.legs.length) s.legs.length = (0, 0) by
            have := whole_end (d := dV c r s V (backW wl V s.pen V.length) (keptW wl V s.pen V.length)) wl p0 rfl rfl f1 HNN.out HSUM.out rfl rfl
            rw [← HVL.out]; exact this] at B1
          unfold dAr at B1
          dsimp only at B1
          go_wp2_with fail
          refine B1.out.mono ?_
          rintro e w10 ⟨rfl, hb10⟩
          have BT := hid (bt ST.out.bel hb10)
          clear ST B1 hb10 ld
          go_wp2_with fail
          refine (wakes9 _).mono ?_
          rintro e w11 ⟨rfl, hb11⟩
          go_wp2
          go_ret
          exact ⟨rfl, bt BT.out hb11⟩
end Go.Proofs.Ytijldpkchmpjkaa
