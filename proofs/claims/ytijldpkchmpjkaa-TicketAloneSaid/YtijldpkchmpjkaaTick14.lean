/- TicketAlone: the walk. -/
import Derived.Test.YtijldpkchmpjkaaTick13
import Derived.BigQuiet
import Derived.Deep.QuietTactic
namespace Go.Proofs.Ytijldpkchmpjkaa
open Go.RowKit Go.Lib Go.Tk Go.Sort Go.Shelf

theorem st_new {w w1 : World} {c r c' r' : Int} {s : SaleV} {A : SaleA} {o : SaleV} {Ao : SaleA} {E1 E2 E3 E4 : TypeId} 
    (hw : w1 = (((w.alloc (.cells #[.int .u8 c, .int .u64 r] E1)).alloc (.cells #[.int .u8 c', .int .u64 r'] E2)).alloc (.cells #[.string s.name, .slice A.la s.legs.length A.lc, .int .i64 s.fare, .slice A.ta s.taxes.length A.tc, .int .i64 s.pen] E3)).alloc (.cells #[.string o.name, .slice Ao.la o.legs.length Ao.lc, .int .i64 o.fare, .slice Ao.ta o.taxes.length Ao.tc, .int .i64 o.pen] E4)) : St w w1 c r c' r' s A o Ao := by
  have b : Below w.heap.size w w1 := by rw [hw]; exact (((below_alloc w _).alloc (by simp) _).alloc (by simp; omega) _).alloc (by simp; omega) _
  refine ⟨?_, ?_, ?_, ?_, b, by rw [hw]; simp⟩
  · rw [hw]; exact (((Box.new rfl).kept (below_alloc _ _)).kept (below_alloc _ _)).kept (below_alloc _ _)
  · rw [hw]; exact ((Box.new (by simp)).kept (below_alloc _ _)).kept (below_alloc _ _)
  · rw [hw]; exact (Box.new (by simp)).kept (below_alloc _ _)
  · rw [hw]; exact Box.new (by simp)

theorem great_no {s : SaleV} (h : greatB s = false) : s.legs.length ≤ 60 ∧ s.taxes.length ≤ 60 ∧ s.name.size ≤ 200 := by
  simp only [greatB, Bool.or_eq_false_iff, decide_eq_false_iff_not] at h
  omega

set_option maxRecDepth 100000 in
set_option maxHeartbeats 8000000 in
theorem alone_small (c r c' r' n : Int) (s : SaleV) (A : SaleA) (o : SaleV) (Ao : SaleA) (w : World) (hs : SaleAt w s A) (ho : SaleAt w o Ao) (ok : SaleOk s) (oko : SaleOk o) (hc0 : 0 ≤ c) (hc1 : c ≤ 255) (hc2 : 0 ≤ c') (hc3 : c' ≤ 255)
    (hg : greatB s = false) (hgo : greatB o = false) :
    Calls Try.prog 8 #[.agg #[.int .u8 c, .int .u64 r], .agg #[.int .u8 c', .int .u64 r'], saleAgg s A, saleAgg o Ao, .int .i64 n] w fun e w' => e = .returned (.bool true) ∧ Below w.heap.size w w' := by
  obtain ⟨la, lc, ta, tc⟩ := A
  obtain ⟨oa, oc, ua, uc⟩ := Ao
  have OK := hid ok
  have OKO := hid oko
  have nn := great_no hg
  have no := great_no hgo
  have K1 := hid (fun w' => great_any s ⟨la, lc, ta, tc⟩ w' (by unfold maxLen; omega) (by unfold maxLen; omega) ok.name)
  have K2 := hid (fun w' => great_any o ⟨oa, oc, ua, uc⟩ w' (by unfold maxLen; omega) (by unfold maxLen; omega) oko.name)
  have HG := hid hg
  have HGO := hid hgo
  obtain ⟨W1, hW1⟩ : ∃ W1, W1 = (((w.alloc (.cells #[.int .u8 c, .int .u64 r] 45)).alloc (.cells #[.int .u8 c', .int .u64 r'] 45)).alloc (.cells #[.string s.name, .slice la s.legs.length lc, .int .i64 s.fare, .slice ta s.taxes.length tc, .int .i64 s.pen] 49)).alloc (.cells #[.string o.name, .slice oa o.legs.length oc, .int .i64 o.fare, .slice ua o.taxes.length uc, .int .i64 o.pen] 49) := ⟨_, rfl⟩
  have ST := hid (st_new (c := c) (r := r) (c' := c') (r' := r') (s := s) (o := o) (A := ⟨la, lc, ta, tc⟩) (Ao := ⟨oa, oc, ua, uc⟩) hW1)
  have HS := hid hs
  have HO := hid ho
  have HW := hid hW1
  have l1 := hid (show s.legs.length ≤ 60 from nn.1)
  have l2 := hid (show o.legs.length ≤ 60 from no.1)
  have HI := hid legrow
  clear hs ho ok oko hg hgo nn no hW1
  unfold saleAgg at K1 K2 ⊢
  dsimp only at K1 K2 ⊢
  go_enter Try.func8, Try.ntmps8
  go_wp2_with fail
  rw [← HW.out]
  refine (K1.out _).mono ?_
  rintro e w2 ⟨rfl, hb2⟩
  rw [HG.out]
  have ST2 := hid (ST.out.kept hb2)
  have bo := ST2.out.bo
  have k0 := bo.cell 0 rfl
  have k1 := bo.cell 1 rfl
  have k2 := bo.cell 2 rfl
  have k3 := bo.cell 3 rfl
  have k4 := bo.cell 4 rfl
  clear hb2 ST bo
  go_wp2_with fail
  refine (K2.out _).mono ?_
  rintro e w3 ⟨rfl, hb3⟩
  rw [HGO.out]
  have ST3 := hid (ST2.out.kept hb3)
  clear hb3 ST2 k0 k1 k2 k3 k4
  have bo := ST3.out.bo
  have bs := ST3.out.bs
  have k2 := bs.cell 2 rfl
  have j1 := bo.cell 1 rfl
  have j2 := bo.cell 2 rfl
  have f2 := bo.free 2
  have HL := hid (cellsL_len encLeg_len o.legs)
  have HLo := hid l2.out
  have m1 : 0 + o.legs.length ≤ maxLen := by have := l2.out; unfold maxLen; omega
  have m8 : (0 + o.legs.length) * 8 ≤ 140737488355328 := by have := l2.out; omega
  clear bo bs
  have zz := ST3.out.z
  by_cases hlen' : o.legs.length = s.legs.length
  case neg =>
    as_aux_lemma =>
      have hq : ((o.legs.length : Int) != (s.legs.length : Int)) = true := by rw [bne_iff_ne]; omega
      have HNE := hid hlen'
      clear hlen'
      go_wp2_with (at_builtin; refine wpList_append_row_at rfl (.const (.slice none 0 0)) (.tmp 28) 46 rfl w3.heap.size 52 (.agg #[.int .u8 0, .int .u16 0, .int .u32 0]) 3 8 Try.underlying46 HI.out rfl (by decide) (.slice none 0 0) 0 [] rfl (World.ownsRow_nil _ _ _ _) oa o.legs.length oc (cellsL encLeg o.legs) rfl HO.out.lnil (HO.out.legs.kept (ST3.out.b.setCell (by show w.heap.size ≤ w.heap.size + 1 + 1 + 1; omega) _)) HL.out (cellsL_one encLeg_one o.legs) m1 m8 (by simp) ?_; intro v1 w4 ho1 hg1 hat1; obtain ⟨a1, c1, rfl, hr1, hn1, hx1⟩ := owns_slice ho1; have b4 := below_none hg1 rfl; have xo4 := (ST3.out.bo.set 2 (.int .i64 s.fare)).kept b4; have i1 := xo4.cell 1 rfl; have g1 := xo4.free 1; have i0 := xo4.cell 0 rfl; have i2 := xo4.cell 2 rfl; have i3 := xo4.cell 3 rfl; have i4 := xo4.cell 4 rfl; have xs4 := (ST3.out.bs.other (b' := w.heap.size + 1 + 1 + 1) (i := 2) (u := .int .i64 s.fare) (by omega)).kept b4; have y1 := xs4.cell 1 rfl)
      have xb := ((ST3.out.b.setCell (p := ⟨w.heap.size + 1 + 1 + 1, 2, none⟩) (by show w.heap.size ≤ w.heap.size + 1 + 1 + 1; omega) (.int .i64 s.fare)).trans (b4.mono (by simp; omega))).setCell (p := ⟨w.heap.size + 1 + 1 + 1, 1, none⟩) (by show w.heap.size ≤ w.heap.size + 1 + 1 + 1; omega) (.slice a1 o.legs.length c1)
      refine (wakes9 _).mono ?_
      rintro e w5 ⟨rfl, hb5⟩
      have XB := hid (bt xb hb5)
      clear xb hb5
      go_wp2
      go_ret
      exact ⟨rfl, XB.out⟩
  case pos =>
  have HLEN := hid hlen'
  have hq : ((o.legs.length : Int) != (s.legs.length : Int)) = false := by simp [hlen']
  clear hlen'
  go_wp2_with (at_builtin; refine wpList_append_row_at rfl (.const (.slice none 0 0)) (.tmp 28) 46 rfl w3.heap.size 52 (.agg #[.int .u8 0, .int .u16 0, .int .u32 0]) 3 8 Try.underlying46 HI.out rfl (by decide) (.slice none 0 0) 0 [] rfl (World.ownsRow_nil _ _ _ _) oa o.legs.length oc (cellsL encLeg o.legs) rfl HO.out.lnil (HO.out.legs.kept (ST3.out.b.setCell (by show w.heap.size ≤ w.heap.size + 1 + 1 + 1; omega) _)) HL.out (cellsL_one encLeg_one o.legs) m1 m8 (by simp) ?_; intro v1 w4 ho1 hg1 hat1; obtain ⟨a1, c1, rfl, hr1, hn1, hx1⟩ := owns_slice ho1; have b4 := below_none hg1 rfl; have xo4 := (ST3.out.bo.set 2 (.int .i64 s.fare)).kept b4; have i1 := xo4.cell 1 rfl; have g1 := xo4.free 1; have i0 := xo4.cell 0 rfl; have i2 := xo4.cell 2 rfl; have i3 := xo4.cell 3 rfl; have i4 := xo4.cell 4 rfl; have xs4 := (ST3.out.bs.other (b' := w.heap.size + 1 + 1 + 1) (i := 2) (u := .int .i64 s.fare) (by omega)).kept b4; have y1 := xs4.cell 1 rfl)
  clear hq
  have o4 : w4.ownsRow w3.heap.size 52 3 (.slice a1 o.legs.length c1) o.legs.length (cellsL encLeg o.legs) := by simpa using ho1
  have o5 : Aside ((w4.setCell ⟨w.heap.size + 1 + 1 + 1, 1, none⟩ (.slice a1 o.legs.length c1)).ownsRow w3.heap.size 52 3 (.slice a1 o.legs.length c1) o.legs.length (cellsL encLeg o.legs)) := ownsRow_setOld o4 (by omega)
  have b5 : Below w.heap.size w (w4.setCell ⟨w.heap.size + 1 + 1 + 1, 1, none⟩ (.slice a1 o.legs.length c1)) := ((ST3.out.b.setCell (p := ⟨w.heap.size + 1 + 1 + 1, 2, none⟩) (by show w.heap.size ≤ w.heap.size + 1 + 1 + 1; omega) (.int .i64 s.fare)).trans (b4.mono (by simp; omega))).setCell (p := ⟨w.heap.size + 1 + 1 + 1, 1, none⟩) (by show w.heap.size ≤ w.heap.size + 1 + 1 + 1; omega) (.slice a1 o.legs.length c1)
  have ST5 : Aside (St w (w4.setCell ⟨w.heap.size + 1 + 1 + 1, 1, none⟩ (.slice a1 o.legs.length c1)) c r c' r' s ⟨la, lc, ta, tc⟩ { o with fare := s.fare } ⟨a1, c1, ua, uc⟩) :=
    ⟨((ST3.out.bt.other (by omega)).kept b4).other (by omega), ((ST3.out.bu.other (by omega)).kept b4).other (by omega), xs4.other (by omega), xo4.set 1 _, b5, by have := b4.size; simp at this ⊢; omega⟩
  clear k2 j1 j2 f2 i0 i1 i2 i3 i4 g1 y1 xo4 xs4 b4 ho1 hg1 hat1 hr1 ST3 m1 m8 o4 b5
  generalize w4.setCell ⟨w.heap.size + 1 + 1 + 1, 1, none⟩ (.slice a1 o.legs.length c1) = w5 at *
  go_loopw [11] (fun s11 wr => ∃ k : Nat, k ≤ o.legs.length ∧ s11 = .int .i64 k ∧ Aside (St w wr c r c' r' s ⟨la, lc, ta, tc⟩ { o with fare := s.fare } ⟨a1, c1, ua, uc⟩) ∧ Aside (wr.ownsRow w3.heap.size 52 3 (.slice a1 o.legs.length c1) o.legs.length (cellsL encLeg (mixL s.legs o.legs k)))) (fun i _ => o.legs.length - (intOf i).toNat)
  case atStart => exact ⟨0, Nat.zero_le _, rfl, ST5, o5⟩
  case round =>
    clear ST5 o5
    obtain ⟨k, hk, rfl, S1, O1⟩ := hrel
    have bo := S1.out.bo
    have bs := S1.out.bs
    have i1 := bo.cell 1 rfl
    have y1 := bs.cell 1 rfl
    dsimp only at i1 y1
    by_cases hlt : k < o.legs.length
    · as_aux_lemma =>
        obtain ⟨g, c9, hv, hg0, hgl⟩ := owns_form (show wr.ownsRow w3.heap.size 52 3 (.slice a1 o.legs.length c1) o.legs.length _ from O1.out) (by omega)
        obtain ⟨rfl, rfl⟩ : a1 = some ⟨g, 0, none⟩ ∧ c1 = c9 := by cases hv; exact ⟨rfl, rfl⟩
        have hls : k < s.legs.length := by rw [← HLEN.out]; exact hlt
        obtain ⟨b, off, rfl, f1, f2, f3⟩ := leg_at (HS.out.legs.kept S1.out.b) hls
        have ml := mixL_len s.legs o.legs k
        have hcell := World.ownsRow.cellAt O1.out (k * 3 + 2) (by omega)
        obtain ⟨v, hv2⟩ : ∃ v, (cellsL encLeg (mixL s.legs o.legs k))[k * 3 + 2]? = some v := by
          refine ⟨_, List.getElem?_eq_getElem (by rw [cellsL_len encLeg_len, ml]; omega)⟩
        rw [hv2] at hcell
        have hfree := World.ownsRow.frozenAt O1.out (k * 3 + 2)
        have hnext := cells_setW (s.legs[k].x) (mixL s.legs o.legs k) k (by rw [ml]; exact hlt)
        have hmix : (mixL s.legs o.legs k).set k { (mixL s.legs o.legs k)[k]'(by rw [ml]; exact hlt) with x := s.legs[k].x } = mixL s.legs o.legs (k + 1) := by
          conv => rhs; unfold mixL
          have e1 : (mixL s.legs o.legs k).getD k default = (mixL s.legs o.legs k)[k]'(by rw [ml]; exact hlt) := by simp [List.getD_eq_getElem?_getD, ml, hlt]
          have e2 : s.legs.getD k default = s.legs[k] := by simp [List.getD_eq_getElem?_getD, hls]
          rw [e1, e2]
        rw [hmix] at hnext
        have HN := hid hnext
        have p0 : (0 : Int) ≤ (k : Int) := by omega
        have p1 : (k : Int) < (s.legs.length : Int) := by omega
        have p2 : (k : Int) < (o.legs.length : Int) := by omega
        have p3 : (o.legs.length : Int) ≤ 60 := by have := l2.out; omega
        clear hnext hmix hv2 ml f1 f2 hv bo bs
        generalize s.legs[k].x = x at *
        go_wp2_with fail
        go_region
        have S2 : Aside (St w ((wr.setCell ⟨g, k * 3 + 2, none⟩ (.int .u32 x)).drew) c r c' r' s ⟨some ⟨b, off, none⟩, lc, ta, tc⟩ { o with fare := s.fare } ⟨some ⟨g, 0, none⟩, c1, ua, uc⟩) := (S1.out.grown (grownBy_setCell' _ _ _ _) (by omega)).kept (Below.refl _ _).drew
        have O2 : Aside (((wr.setCell ⟨g, k * 3 + 2, none⟩ (.int .u32 x)).drew).ownsRow w3.heap.size 52 3 (.slice (some ⟨g, 0, none⟩) o.legs.length c1) o.legs.length (cellsL encLeg (mixL s.legs o.legs (k + 1)))) := by
          rw [← HN.out]
          exact ownsRow_below (ownsRow_set O1.out _ _) (Below.refl _ _).drew
        clear S1 O1 hcell hfree f3 i1 y1
        generalize (wr.setCell ⟨g, k * 3 + 2, none⟩ (.int .u32 x)).drew = w6 at *
        go_wp2
        go_roundw
        case measure => simp [intOf]; omega
        case rel => exact ⟨k + 1, by omega, by go_num, S2, O2⟩
    · as_aux_lemma =>
        obtain rfl : k = o.legs.length := by omega
        obtain ⟨so, hso⟩ : ∃ so : SaleV, so = { o with fare := s.fare, legs := mixL s.legs o.legs o.legs.length } := ⟨_, rfl⟩
        have hws : wsOf so = wsOf s := by rw [hso]; exact mixL_ws HLEN.out
        have hle : so.legs.length = o.legs.length := by rw [hso]; exact mixL_len _ _ _
        have hls : s.legs.length = o.legs.length := HLEN.out.symm
        have hlt2 : so.taxes.length = o.taxes.length := by rw [hso]
        have hnm : so.name = o.name := by rw [hso]
        have hfa : so.fare = s.fare := by rw [hso]
        have hpe : so.pen = o.pen := by rw [hso]
        have okso : SaleOk so := by
          rw [hso]
          exact ⟨OKO.out.name, mixL_ok OK.out.legs OKO.out.legs _ (Nat.le_refl _) (by rw [← HLEN.out]; exact Nat.le_refl _), OKO.out.taxes, OK.out.fare, OKO.out.pen, by show (mixL _ _ _).length ≤ 1000; rw [mixL_len]; have := l2.out; omega, OKO.out.nt⟩
        obtain ⟨ga, gc, hgv, hgr, hgn, -⟩ := owns_slice (show wr.ownsRow w3.heap.size 52 3 (.slice a1 o.legs.length c1) o.legs.length _ from O1.out)
        obtain ⟨rfl, rfl⟩ : a1 = ga ∧ c1 = gc := by cases hgv; exact ⟨rfl, rfl⟩
        have sato : SaleAt wr so ⟨a1, c1, ua, uc⟩ := by
          have ht := HO.out.taxes.kept S1.out.b
          refine ⟨?_, ?_, hgn, HO.out.tnil⟩
          · rw [hso]; exact hgr
          · rw [hso]; exact ht
        have SATO := hid sato
        have SATS := hid (HS.out.kept S1.out.b)
        have OKSO := hid okso
        have HWS := hid hws
        have E1 := hid hle
        have E2 := hid hlt2
        have E3 := hid hnm
        have E4 := hid hfa
        have E5 := hid hpe
        have E6 := hid hls
        have KM1 := hid (fun w' (hb : Below wr.heap.size wr w') => make_any c r n s ⟨la, lc, ta, tc⟩ w' (SATS.out.kept hb) OK.out hc0 hc1)
        have KM2 := hid (fun w' (hb : Below wr.heap.size wr w') => make_any c' r' n so ⟨a1, c1, ua, uc⟩ w' (SATO.out.kept hb) OKSO.out hc2 hc3)
        unfold saleAgg at KM1 KM2
        dsimp only at KM1 KM2
        rw [E1.out, E2.out, E3.out, E4.out, E5.out] at KM2
        have t0 := S1.out.bt.cell 0 rfl
        have t1 := S1.out.bt.cell 1 rfl
        have j0 := bs.cell 0 rfl
        have j2 := bs.cell 2 rfl
        have j3 := bs.cell 3 rfl
        have j4 := bs.cell 4 rfl
        dsimp only at j0 j2 j3 j4
        have S1' := hid S1.out
        clear hso hws hle hls hlt2 hnm hfa hpe okso hgv hgr hgn sato O1 hk hlt bo bs S1
        go_wp2_with fail
        refine (KM1.out _ (Below.refl _ _)).mono ?_
        rintro e w6 hm1
        have M1 := hid hm1
        clear hm1 t0 t1 j0 j2 j3 j4 i1 y1
        rcases M1.out with ⟨hE1, A1, va, vc, rfl, -, hv, hb6⟩ | ⟨hE1, rfl, hb6⟩
        · as_aux_lemma =>
            have HV := hid hv
            clear hv hE1 M1
            unfold docV
            have S6 := hid (S1'.out.kept hb6)
            have B6 := hid hb6
            have n1 : w.heap.size + 1 < w6.heap.size := S6.out.bu.lt
            have n3 : w.heap.size + 1 + 1 + 1 < w6.heap.size := S6.out.bo.lt
            have t0 := S6.out.bu.cell 0 rfl
            have t1 := S6.out.bu.cell 1 rfl
            have j0 := S6.out.bo.cell 0 rfl
            have j1 := S6.out.bo.cell 1 rfl
            have j2 := S6.out.bo.cell 2 rfl
            have j3 := S6.out.bo.cell 3 rfl
            have j4 := S6.out.bo.cell 4 rfl
            dsimp only at j0 j1 j2 j3 j4
            clear hb6
            go_wp2_with fail
            refine (KM2.out _ (bt B6.out (below_alloc _ _))).mono ?_
            rintro e w7 hm2
            clear t0 t1 j0 j1 j2 j3 j4
            rcases hm2 with ⟨hE2, A2, va2, vc2, rfl, -, hv2, hb7⟩ | ⟨hE2, rfl, hb7⟩
            · rw [E4.out, HWS.out] at hv2
              unfold docV
              rw [E1.out, E2.out, E3.out, E4.out, E5.out]
              have HV2 := hid hv2
              have HV1 := hid ((HV.out.kept (below_alloc _ _)).kept hb7)
              clear hv2 hE2 HV
              have xa : Box (w7.alloc (.cells #[.int .u8 c', .int .u64 r', .string o.name, .slice A2.la o.legs.length A2.lc, .int .i64 s.fare, .slice A2.ta o.taxes.length A2.tc, .int .i64 o.pen, .slice va2 o.legs.length vc2, .int .u8 0, .int .u64 0, .int .u8 0, .int .u64 0, .int .i64 0, .int .i64 s.fare, .int .i64 0, .int .i64 0, .int .i64 0] 54)) w6.heap.size #[.int .u8 c, .int .u64 r, .string s.name, .slice A1.la s.legs.length A1.lc, .int .i64 s.fare, .slice A1.ta s.taxes.length A1.tc, .int .i64 s.pen, .slice va s.legs.length vc, .int .u8 0, .int .u64 0, .int .u8 0, .int .u64 0, .int .i64 0, .int .i64 s.fare, .int .i64 0, .int .i64 0, .int .i64 0] := ((Box.new (w := w6) (E := 54) rfl).kept hb7).kept (below_alloc _ _)
              have xb : Box (w7.alloc (.cells #[.int .u8 c', .int .u64 r', .string o.name, .slice A2.la o.legs.length A2.lc, .int .i64 s.fare, .slice A2.ta o.taxes.length A2.tc, .int .i64 o.pen, .slice va2 o.legs.length vc2, .int .u8 0, .int .u64 0, .int .u8 0, .int .u64 0, .int .i64 0, .int .i64 s.fare, .int .i64 0, .int .i64 0, .int .i64 0] 54)) w7.heap.size #[.int .u8 c', .int .u64 r', .string o.name, .slice A2.la o.legs.length A2.lc, .int .i64 s.fare, .slice A2.ta o.taxes.length A2.tc, .int .i64 o.pen, .slice va2 o.legs.length vc2, .int .u8 0, .int .u64 0, .int .u8 0, .int .u64 0, .int .i64 0, .int .i64 s.fare, .int .i64 0, .int .i64 0, .int .i64 0] := Box.new rfl
              have b8 : RowKit.Below w.heap.size w (w7.alloc (.cells #[.int .u8 c', .int .u64 r', .string o.name, .slice A2.la o.legs.length A2.lc, .int .i64 s.fare, .slice A2.ta o.taxes.length A2.tc, .int .i64 o.pen, .slice va2 o.legs.length vc2, .int .u8 0, .int .u64 0, .int .u8 0, .int .u64 0, .int .i64 0, .int .i64 s.fare, .int .i64 0, .int .i64 0, .int .i64 0] 54)) := (((S6.out.b.alloc S6.out.b.size (.cells #[.int .u8 c, .int .u64 r, .string s.name, .slice A1.la s.legs.length A1.lc, .int .i64 s.fare, .slice A1.ta s.taxes.length A1.tc, .int .i64 s.pen, .slice va s.legs.length vc, .int .u8 0, .int .u64 0, .int .u8 0, .int .u64 0, .int .i64 0, .int .i64 s.fare, .int .i64 0, .int .i64 0, .int .i64 0] 54)).trans (hb7.mono (by have := S6.out.b.size; simp; omega))).alloc (by have := S6.out.b.size; have := hb7.size; simp at this; omega) _)
              have r1 := HV1.out.kept (below_alloc w7 (.cells #[.int .u8 c', .int .u64 r', .string o.name, .slice A2.la o.legs.length A2.lc, .int .i64 s.fare, .slice A2.ta o.taxes.length A2.tc, .int .i64 o.pen, .slice va2 o.legs.length vc2, .int .u8 0, .int .u64 0, .int .u8 0, .int .u64 0, .int .i64 0, .int .i64 s.fare, .int .i64 0, .int .i64 0, .int .i64 0] 54))
              have r2 := HV2.out.kept (below_alloc w7 (.cells #[.int .u8 c', .int .u64 r', .string o.name, .slice A2.la o.legs.length A2.lc, .int .i64 s.fare, .slice A2.ta o.taxes.length A2.tc, .int .i64 o.pen, .slice va2 o.legs.length vc2, .int .u8 0, .int .u64 0, .int .u8 0, .int .u64 0, .int .i64 0, .int .i64 s.fare, .int .i64 0, .int .i64 0, .int .i64 0] 54))
              have nl := E6.out
              have ol := l1.out
              have vl : (shareL s.fare (wsOf s)).length = s.legs.length := by rw [shareL_len, ws_len]
              have XA := hid xa
              have XB := hid xb
              have B8 := hid b8
              have R1 := hid r1
              have R2 := hid r2
              have VL := hid vl
              have d7 : decide ((o.legs.length : Int) = s.legs.length) = true := decide_eq_true (by omega)
              have d8 : ((s.legs.length : Int) == (o.legs.length : Int)) = true := by simp; omega
              have d9 : (s.legs.length == o.legs.length) = true := by simp; omega
              have q1 : (s.legs.length : Int) ≤ (o.legs.length : Int) := by omega
              have q2 : (o.legs.length : Int) ≤ (s.legs.length : Int) := by omega
              clear xa xb b8 r1 r2 vl hb7 HV1 HV2 nl
              go_wp2
              generalize w7.alloc (.cells #[.int .u8 c', .int .u64 r', .string o.name, .slice A2.la o.legs.length A2.lc, .int .i64 s.fare, .slice A2.ta o.taxes.length A2.tc, .int .i64 o.pen, .slice va2 o.legs.length vc2, .int .u8 0, .int .u64 0, .int .u8 0, .int .u64 0, .int .i64 0, .int .i64 s.fare, .int .i64 0, .int .i64 0, .int .i64 0] 54) = w8 at *
              go_loopw [16] (fun s16 wr => ∃ k : Nat, k ≤ s.legs.length ∧ s16 = .int .i64 k ∧ Aside (RowKit.Below w8.heap.size w8 wr)) (fun i _ => s.legs.length - (intOf i).toNat)
              case atStart => exact ⟨0, Nat.zero_le _, rfl, Below.refl _ _⟩
              case round =>
                obtain ⟨k, hk, rfl, hb⟩ := hrel
                have k1 := (XA.out.kept hb.out).cell 7 rfl
                have k2 := (XB.out.kept hb.out).cell 7 rfl
                by_cases hlt : k < s.legs.length
                · obtain ⟨b1, o1, rfl, c1⟩ := (R1.out.kept hb.out).int k (by rw [VL.out]; exact hlt)
                  obtain ⟨b2, o2, rfl, c2⟩ := (R2.out.kept hb.out).int k (by rw [VL.out]; exact hlt)
                  generalize (shareL s.fare (wsOf s)).getD k 0 = x at *
                  have p0 : (0 : Int) ≤ (k : Int) := by omega
                  have p1 : (k : Int) < (s.legs.length : Int) := by omega
                  have p2 : (k : Int) < (o.legs.length : Int) := by omega
                  have d1 : decide (k ≥ o.legs.length) = false := decide_eq_false (by omega)
                  have d2 : decide ((k : Int) ≥ (o.legs.length : Int)) = false := decide_eq_false (by omega)
                  go_wp2_with fail
                  go_quiet (fail)
                  go_wp2
                  go_roundw
                  case measure => simp [intOf]; omega
                  case rel => exact ⟨k + 1, by omega, by go_num, bt hb.out (drewN_below _ _)⟩
                · obtain rfl : k = s.legs.length := by omega
                  have k3 := (XA.out.kept hb.out).cell 13 rfl
                  have k4 := (XB.out.kept hb.out).cell 13 rfl
                  go_wp2_with fail
                  refine (wakes9 _).mono ?_
                  rintro e w9 ⟨rfl, hb9⟩
                  have BB := hid (bt (bt B8.out hb.out) hb9)
                  clear hb9
                  go_wp2
                  go_ret
                  exact ⟨rfl, BB.out⟩
            · have hz2 : (makeE c' r' so n != 0) = true := by simpa using hE2
              clear hE2
              unfold zeroDoc
              generalize makeE c' r' so n = e2 at *
              go_wp2_with fail
              refine (wakes9 _).mono ?_
              rintro e w8 ⟨rfl, hb8⟩
              have XB := hid (bt ((((S6.out.b.alloc S6.out.b.size (.cells #[.int .u8 c, .int .u64 r, .string s.name, .slice A1.la s.legs.length A1.lc, .int .i64 s.fare, .slice A1.ta s.taxes.length A1.tc, .int .i64 s.pen, .slice va s.legs.length vc, .int .u8 0, .int .u64 0, .int .u8 0, .int .u64 0, .int .i64 0, .int .i64 s.fare, .int .i64 0, .int .i64 0, .int .i64 0] 54)).trans (hb7.mono (by have := S6.out.b.size; simp; omega))).alloc (by have := S6.out.b.size; have := hb7.size; simp at this; omega) _)) hb8)
              clear hb7 hb8
              go_wp2
              go_ret
              exact ⟨rfl, XB.out⟩
        · as_aux_lemma =>
            have hz1 : (makeE c r s n != 0) = true := by simpa using hE1
            clear hE1 M1
            unfold zeroDoc
            generalize makeE c r s n = e1 at *
            have S6 := hid (S1'.out.kept hb6)
            have B6 := hid hb6
            have n1 : w.heap.size + 1 < w6.heap.size := S6.out.bu.lt
            have n3 : w.heap.size + 1 + 1 + 1 < w6.heap.size := S6.out.bo.lt
            have t0 := S6.out.bu.cell 0 rfl
            have t1 := S6.out.bu.cell 1 rfl
            have j0 := S6.out.bo.cell 0 rfl
            have j1 := S6.out.bo.cell 1 rfl
            have j2 := S6.out.bo.cell 2 rfl
            have j3 := S6.out.bo.cell 3 rfl
            have j4 := S6.out.bo.cell 4 rfl
            dsimp only at j0 j1 j2 j3 j4
            clear hb6
            go_wp2_with fail
            refine (KM2.out _ (bt B6.out (below_alloc _ _))).mono ?_
            rintro e w7 hm2
            clear t0 t1 j0 j1 j2 j3 j4
            rcases hm2 with ⟨hE2, A2, va2, vc2, rfl, -, hv2, hb7⟩ | ⟨hE2, rfl, hb7⟩
            · clear hv2 hE2
              unfold docV
              rw [E1.out, E2.out, E3.out, E4.out, E5.out]
              go_wp2_with fail
              refine (wakes9 _).mono ?_
              rintro e w8 ⟨rfl, hb8⟩
              have XB := hid (bt ((((S6.out.b.alloc S6.out.b.size (.cells #[.int .u8 0, .int .u64 0, .string ⟨#[]⟩, .slice none 0 0, .int .i64 0, .slice none 0 0, .int .i64 0, .slice none 0 0, .int .u8 0, .int .u64 0, .int .u8 0, .int .u64 0, .int .i64 0, .int .i64 0, .int .i64 0, .int .i64 0, .int .i64 0] 54)).trans (hb7.mono (by have := S6.out.b.size; simp; omega))).alloc (by have := S6.out.b.size; have := hb7.size; simp at this; omega) _)) hb8)
              clear hb7 hb8
              go_wp2
              go_ret
              exact ⟨rfl, XB.out⟩
            · have q1 := hE2
              clear q1 hE2
              unfold zeroDoc
              generalize makeE c' r' so n = e2 at *
              go_wp2_with fail
              refine (wakes9 _).mono ?_
              rintro e w8 ⟨rfl, hb8⟩
              have XB := hid (bt ((((S6.out.b.alloc S6.out.b.size (.cells #[.int .u8 0, .int .u64 0, .string ⟨#[]⟩, .slice none 0 0, .int .i64 0, .slice none 0 0, .int .i64 0, .slice none 0 0, .int .u8 0, .int .u64 0, .int .u8 0, .int .u64 0, .int .i64 0, .int .i64 0, .int .i64 0, .int .i64 0, .int .i64 0] 54)).trans (hb7.mono (by have := S6.out.b.size; simp; omega))).alloc (by have := S6.out.b.size; have := hb7.size; simp at this; omega) _)) hb8)
              clear hb7 hb8
              go_wp2
              go_ret
              exact ⟨rfl, XB.out⟩
end Go.Proofs.Ytijldpkchmpjkaa
