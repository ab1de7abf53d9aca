/- Pro2, Tick11. -/
import Derived.Test.YtlamaakconjkcaaGreatMc3966b9
import Derived.Deep.RegionHeld3
import Derived.Deep.DrawnRows
import Derived.Deep.RegionWith
import Derived.Deep.DeepCutAuto
section
namespace Go.Proofs.YtlamaakconjkcaaGreat
set_option maxRecDepth 100000
open Go.RowKit Go.Lib Go.Tk Go.Sort Go.Shelf

def indexE (t : Int) (ws : List Int) (i : Int) : Int := if shareE t ws ≠ 0 then shareE t ws else if i < 0 ∨ (ws.length : Int) ≤ i then 1 else 0
def indexV (t : Int) (ws : List Int) (i : Int) : Int := if indexE t ws i = 0 then (shareV t ws).getD i.toNat 0 else 0

theorem shareV_len {t : Int} {ws : List Int} (h : shareE t ws = 0) : (shareV t ws).length = ws.length := by unfold shareV; rw [if_pos h, shareL_len]
theorem shareV_bad {t : Int} {ws : List Int} (h : shareE t ws ≠ 0) : shareV t ws = [] := by unfold shareV; rw [if_neg h]

theorem known_sort : sortL (restsL 100 7 [1, 2, 4]) = [(4, 1), (2, 0), (1, 2)] := by
  refine (sortL_unique ?_ ?_).symm
  · decide
  · decide
theorem known_share : shareV 100 [1, 2, 4] = [14, 29, 57] ∧ shareE 100 [1, 2, 4] = 0 := by
  have e : shareE 100 [1, 2, 4] = 0 := by decide
  refine ⟨?_, e⟩
  unfold shareV
  rw [if_pos e]
  unfold shareL chosen
  have hs : ([1, 2, 4] : List Int).sum = 7 := by decide
  rw [hs, known_sort]
  decide
theorem known_none : shareE 7 [] = 60 ∧ shareV 7 [] = [] := ⟨by decide, by decide⟩

end Go.Proofs.YtlamaakconjkcaaGreat
end
section
namespace Go.Proofs.YtlamaakconjkcaaGreat
set_option maxRecDepth 100000
open Go.RowKit Go.Lib Go.Tk
attribute [-go_sem] storeCells
theorem stc_one (a : Addr) (v : Value) : storeCells a [v] 0 = (do store (a.add 0) v; storeCells a [] 1) := by
  conv => lhs; unfold storeCells
theorem stc_three (a : Addr) (x y z : Value) : storeCells a [x, y, z] 0 = (do store (a.add 0) x; store (a.add 1) y; store (a.add 2) z; storeCells a [] 3) := by
  unfold storeCells
  congr 1
theorem stc_nil (a : Addr) (i : Nat) : storeCells a [] i = pure () := by unfold storeCells; rfl
attribute [local go_sem] stc_one stc_three stc_nil
attribute [local go_sem ↓] Go.wp_at_zero Go.wp_at_succ

def wsOf (s : SaleV) : List Int := s.legs.map (·.x)
def docV (c r : Int) (s : SaleV) (A : SaleA) (va : Option Addr) (vc : Nat) : Value :=
  .agg #[.int .u8 c, .int .u64 r, .string s.name, .slice A.la s.legs.length A.lc, .int .i64 s.fare, .slice A.ta s.taxes.length A.tc, .int .i64 s.pen, .slice va s.legs.length vc, .int .u8 0, .int .u64 0, .int .u8 0, .int .u64 0, .int .i64 0, .int .i64 s.fare, .int .i64 0, .int .i64 0, .int .i64 0]
def docCells (c r : Int) (s : SaleV) (A : SaleA) (va : Option Addr) (vc : Nat) : List Value :=
  [.int .u8 c, .int .u64 r, .string s.name, .slice A.la s.legs.length A.lc, .int .i64 s.fare, .slice A.ta s.taxes.length A.tc, .int .i64 s.pen, .slice va s.legs.length vc, .int .u8 0, .int .u64 0, .int .u8 0, .int .u64 0, .int .i64 0, .int .i64 s.fare, .int .i64 0, .int .i64 0, .int .i64 0]
def MadeDoc (c r : Int) (s : SaleV) (w : World) (e : Ending) (w' : World) : Prop :=
  ∃ A va vc, e = .returned (.tuple #[docV c r s A va vc, .int .i64 0]) ∧ SaleAt w' s A ∧ Row w' va ((shareL s.fare (wsOf s)).map (.int .i64)) ∧ Below w.heap.size w w'

theorem u32rowT : (Tryz.prog.info? 36).map (fun i => (i.zero, i.size, i.bytes)) = some (some (.int .u32 0), 1, 4) := by kernel_rfl

/-- behind the copies -/
structure Mid (c r : Int) (s : SaleV) (A : SaleA) (w wx : World) : Prop where
  bt : Box wx w.heap.size #[.int .u8 c, .int .u64 r]
  bs : Box wx (w.heap.size + 1) #[.string s.name, .slice A.la s.legs.length A.lc, .int .i64 s.fare, .slice A.ta s.taxes.length A.tc, .int .i64 s.pen]
  bd : Box wx (w.heap.size + 1 + 1) zeroCells.toArray
  sa : SaleAt wx s A
  lx : ∀ x, A.la = some x → w.heap.size + 3 ≤ x.block
  tx : ∀ x, A.ta = some x → w.heap.size + 3 ≤ x.block
  b : Below w.heap.size w wx
  z : w.heap.size + 3 ≤ wx.heap.size

theorem Mid.kept {c r : Int} {s : SaleV} {A : SaleA} {w wx w' : World} (h : Mid c r s A w wx) (hb : Below wx.heap.size wx w') : Mid c r s A w w' :=
  ⟨h.bt.kept hb, h.bs.kept hb, h.bd.kept hb, h.sa.kept hb, h.lx, h.tx, Go.Tk.bt h.b hb, Nat.le_trans h.z hb.size⟩
theorem ws_snoc {s : SaleV} {k : Nat} (h : k < s.legs.length) : ((wsOf s).take (k + 1)).map (Value.int .u32) = ((wsOf s).take k).map (.int .u32) ++ [.int .u32 s.legs[k].x] := by
  have h' : k < (wsOf s).length := by unfold wsOf; simpa using h
  rw [List.take_succ_eq_append_getElem h', List.map_append]
  simp [wsOf]
theorem ws_len (s : SaleV) : (wsOf s).length = s.legs.length := by simp [wsOf]
theorem mid_of {c r : Int} {s : SaleV} {la ta a1 a2 : Option Addr} {lc tc c1 c2 : Nat} {w w2 w3 w4 : World} (xt : Box w2 w.heap.size #[.int .u8 c, .int .u64 r])
    (xs : Box w2 (w.heap.size + 1) #[.string s.name, .slice la s.legs.length lc, .int .i64 s.fare, .slice ta s.taxes.length tc, .int .i64 s.pen])
    (xd : Box w2 (w.heap.size + 1 + 1) zeroCells.toArray) (b2 : Below w.heap.size w w2) (hz : w.heap.size + 3 ≤ w2.heap.size)
    (hr1 : Row w3 a1 (cellsL encLeg s.legs)) (hn1 : a1 = none → c1 = 0) (hx1 : ∀ x, a1 = some x → w2.drew.heap.size ≤ x.block) (hb3 : Below w2.drew.heap.size w2.drew w3)
    (hr2 : Row w4 a2 (cellsL encTax s.taxes)) (hn2 : a2 = none → c2 = 0) (hx2 : ∀ x, a2 = some x → w3.heap.size ≤ x.block) (hb4 : Below w3.heap.size w3 w4) :
    Mid c r s ⟨a1, c1, a2, c2⟩ w ((w4.setCell ⟨w.heap.size + 1, 1, none⟩ (.slice a1 s.legs.length c1)).setCell ⟨w.heap.size + 1, 3, none⟩ (.slice a2 s.taxes.length c2)) := by
  have hb3' : Below w2.heap.size w2 w3 := ⟨hb3.os, hb3.tape, hb3.output, hb3.size, hb3.block⟩
  have z3 := hb3'.size
  have z4 := hb4.size
  have hx1' : ∀ x, a1 = some x → w.heap.size + 3 ≤ x.block := fun x h => Nat.le_trans hz (hx1 x h)
  have hx2' : ∀ x, a2 = some x → w.heap.size + 3 ≤ x.block := fun x h => Nat.le_trans (Nat.le_trans hz z3) (hx2 x h)
  have b4 : Below w.heap.size w w4 := (b2.trans (hb3'.mono (by omega))).trans (hb4.mono (by omega))
  refine ⟨?_, ?_, ?_, ⟨?_, ?_, hn1, hn2⟩, hx1', hx2', (b4.setCell (Nat.le_succ _) _).setCell (Nat.le_succ _) _, by simp; omega⟩
  · exact (((xt.kept hb3').kept hb4).other (by omega)).other (by omega)
  · exact (((xs.kept hb3').kept hb4).set 1 _).set 3 _
  · exact (((xd.kept hb3').kept hb4).other (by omega)).other (by omega)
  · exact ((hr1.kept hb4).grown (grownBy_setCell' _ _ _ _) (fun x h e => by have := hx1' x h; have := Option.some.inj e; omega)).grown (grownBy_setCell' _ _ _ _) (fun x h e => by have := hx1' x h; have := Option.some.inj e; omega)
  · exact (hr2.grown (grownBy_setCell' _ _ _ _) (fun x h e => by have := hx2' x h; have := Option.some.inj e; omega)).grown (grownBy_setCell' _ _ _ _) (fun x h e => by have := hx2' x h; have := Option.some.inj e; omega)

set_option maxRecDepth 100000 in
set_option maxHeartbeats 4000000 in
theorem make_good (c r n : Int) (s : SaleV) (A : SaleA) (w : World) (hs : SaleAt w s A) (ok : SaleOk s) (hc0 : 0 ≤ c) (hc1 : c ≤ 255) (h : checkE s n = 0) (h2 : c < n) (h3 : 1 ≤ r) (h4 : r ≤ 9999999999)
    (hp : PosRow (wsOf s)) (hE : shareE s.fare (wsOf s) = 0) :
    Calls Tryz.prog 50 #[.agg #[.int .u8 c, .int .u64 r], saleAgg s A, .int .i64 n] w (MadeDoc c r s w) := by
  obtain ⟨la, lc, ta, tc⟩ := A
  have KEY := hid (fun w' (hb : Below w.heap.size w w') => tcheck_any s ⟨la, lc, ta, tc⟩ n w' (hs.kept hb) ok)
  have HC := hid h
  have HS := hid hs
  have HP : Aside (PosRow (wsOf s)) := hp
  have HE := hid hE
  have nl := ok.nl
  have nt := ok.nt
  have q2 : decide (c ≥ n) = false := decide_eq_false (by omega)
  have q3 : decide (r < 1) = false := decide_eq_false (by omega)
  have q4 : decide (r > 9999999999) = false := decide_eq_false (by omega)
  clear hs ok h h2 h3 h4 hp hE
  unfold saleAgg at KEY ⊢
  dsimp only at KEY ⊢
  go_enter Tryz.func50, Tryz.ntmps50
  go_wp2_with fail
  refine (KEY.out _ ?_).mono ?_
  · exact (((Below.refl _ _).alloc (Nat.le_refl _) _).alloc (by simp) _).alloc (by simp; omega) _
  rintro e w2 ⟨rfl, hb2⟩
  rw [HC.out]
  clear KEY HC
  have xt := ((Box.new (w := w) (vs := #[.int .u8 c, .int .u64 r]) (E := 29) rfl).kept (below_alloc _ _)).kept (below_alloc _ _) |>.kept hb2
  have xs := ((Box.new (w := w.alloc (.cells #[.int .u8 c, .int .u64 r] 29)) (vs := #[.string s.name, .slice la s.legs.length lc, .int .i64 s.fare, .slice ta s.taxes.length tc, .int .i64 s.pen]) (E := 26) (b := w.heap.size + 1) (by simp)).kept (below_alloc _ _)).kept hb2
  have xd : Box w2 (w.heap.size + 1 + 1) #[.int .u8 0, .int .u64 0, .string ⟨#[]⟩, .slice none 0 0, .int .i64 0, .slice none 0 0, .int .i64 0, .slice none 0 0, .int .u8 0, .int .u64 0, .int .u8 0, .int .u64 0, .int .i64 0, .int .i64 0, .int .i64 0, .int .i64 0, .int .i64 0] := (Box.new (by simp)).kept hb2
  have HB2 : Aside (Below w.heap.size w w2) := ((((Below.refl _ _).alloc (Nat.le_refl _) _).alloc (by simp) _).alloc (by simp; omega) _).trans (hb2.mono (by simp; omega))
  have hz : w.heap.size + 3 ≤ w2.heap.size := by have := hb2.size; simp at this; omega
  have t0 := xt.cell 0 rfl
  have t1 := xt.cell 1 rfl
  have XT := hid xt
  have XD := hid xd
  have XS := hid xs
  have s1 := xs.cell 1 rfl
  have s3 := xs.cell 3 rfl
  have e1 := xs.free 1
  have e3 := xs.free 3
  clear hb2 xt xd xs
  have HSL := hid (HS.out.kept HB2.out)
  clear HS
  have S1 := hid (show w2.drew.cell? ⟨w.heap.size + 1, 1, none⟩ = some (.slice la s.legs.length lc) by simpa using s1)
  have S3 := hid (show w2.drew.cell? ⟨w.heap.size + 1, 3, none⟩ = some (.slice ta s.taxes.length tc) by simpa using s3)
  have E1 := hid (show w2.drew.frozen? ⟨w.heap.size + 1, 1, none⟩ = false by simpa using e1)
  have E3 := hid (show w2.drew.frozen? ⟨w.heap.size + 1, 3, none⟩ = false by simpa using e3)
  have LT := hid (show w.heap.size + 1 < w2.drew.heap.size by simp; omega)
  go_upto_region 6 with fail
  go_cut [45] from 43 to 50 (fun _ wx => ∃ A', Aside (Mid c r s A' w wx))
  case first =>
    go_region_with (first
      | (go_at_call 95; refine (cloneLeg_any s.legs la _ lc _ rfl HSL.out.lnil (by first | exact HSL.out.legs | exact HSL.out.legs.kept (Below.drew (Below.refl _ _))) nl).mono ?_; rintro e w3 ⟨a1, c1, rfl, hr1, hn1, hx1, hb3⟩; have z1 := cell_kept hb3 S1.out; have z3 := cell_kept hb3 S3.out; have y1 := frozen_kept hb3 E1.out LT.out; have y3 := frozen_kept hb3 E3.out LT.out)
      | (go_at_call 96; refine (cloneTax_any s.taxes ta _ tc _ rfl HSL.out.tnil (by first | exact HSL.out.taxes.kept hb3 | exact HSL.out.taxes.kept (Below.trans (Below.drew (Below.refl _ _)) hb3)) nt).mono ?_; rintro e w4 ⟨a2, c2, rfl, hr2, hn2, hx2, hb4⟩; have z1' := cell_kept hb4 z1; have z3' := cell_kept hb4 z3; have y1' := frozen_kept hb4 y1 (lt_of_cell z1); have y3' := frozen_kept hb4 y3 (lt_of_cell z3)))
    all_goals
      go_wp2_with fail
      go_meet
      case rel =>
        exact ⟨⟨a1, c1, a2, c2⟩, mid_of XT.out XS.out XD.out HB2.out hz hr1 hn1 hx1 hb3 hr2 hn2 hx2 hb4⟩
  case rest =>
  obtain ⟨⟨a1, c1, a2, c2⟩, M⟩ := hcut
  clear S1 S3 E1 E3 LT s1 s3 e1 e3 t0 t1 XT XD XS HB2 HSL hz q2 q3 q4
  have mt := M.out.bt
  have ms := M.out.bs
  have md := M.out.bd
  have k0 := ms.cell 0 rfl
  have k1 := ms.cell 1 rfl
  have k2 := ms.cell 2 rfl
  have k3 := ms.cell 3 rfl
  have k4 := ms.cell 4 rfl
  have t0 := mt.cell 0 rfl
  have t1 := mt.cell 1 rfl
  go_wp2_with fail
  have HI := hid u32rowT
  have M0 := M
  have zc := M.out.z
  clear mt ms md k0 k1 k2 k3 k4 t0 t1 M
  go_loopw [9, 54] (fun s9 s54 wr => ∃ (k : Nat) (v : Value), k ≤ s.legs.length ∧ s54 = .int .i64 k ∧ s9 = v ∧ Aside (wr.ownsRow wc.heap.size 36 1 v k (((wsOf s).take k).map (.int .u32))) ∧ Aside (Below wc.heap.size wc wr)) (fun _ i _ => s.legs.length - (RowKit.intOf i).toNat)
  case atStart => exact ⟨0, _, Nat.zero_le _, rfl, rfl, World.ownsRow_nil _ _ _ _, Below.refl _ _⟩
  case round =>
    obtain ⟨k, v, hk, rfl, rfl, O1, B1⟩ := hrel
    by_cases hlt : k < s.legs.length
    · obtain ⟨b, off, hab, f1, f2, f3⟩ := leg_at (M0.out.kept B1.out).sa.legs hlt
      dsimp only at hab
      subst hab
      have HSN := hid (ws_snoc hlt)
      generalize s.legs[k] = x at *
      have hm1 : k + 1 ≤ maxLen := by unfold maxLen; omega
      have hm4 : (k + 1) * 4 ≤ 140737488355328 := by omega
      have zr := B1.out.size
      go_wp2_with (at_builtin; refine wpList_append_row_at rfl _ _ 178 rfl wc.heap.size 36 (.int .u32 0) 1 4 Tryz.underlying178 HI.out rfl (by decide) _ k _ rfl (World.ownsRow.alloc (World.ownsRow.alloc O1.out _) _) _ 1 1 [.int .u32 x.x] rfl (by simp) (row_new (by simp)) rfl (by simp [Value.oneCell']) hm1 hm4 (by simp; omega) ?_; intro v1 w3 ho1 hg1 hat1)
      have hg1' : ((wr.alloc (.cells #[.int .u8 x.c, .int .u16 x.f, .int .u32 x.x] 38)).alloc (.cells #[.int .u32 x.x] 36)).grownBy w3 u9.ownBlock := hg1
      have B3 : Aside (Below wc.heap.size wc w3) := ((B1.out.alloc B1.out.size _).alloc (by simp; omega) _).grown hg1' (by simp; omega) (fun g e => (World.ownsRow.lt O1.out g e).1)
      have O3 : Aside (w3.ownsRow wc.heap.size 36 1 v1 (k + 1) (((wsOf s).take (k + 1)).map (.int .u32))) := by
        show World.ownsRow _ _ _ _ _ _ _
        rw [HSN.out]; exact ho1
      clear hg1 hg1' hat1 ho1 O1 B1 f1 f2 f3
      go_roundw
      case measure => simp [RowKit.intOf]; omega
      case rel => exact ⟨k + 1, v1, by omega, by go_num, rfl, O3, B3⟩
    · obtain rfl : k = s.legs.length := by omega
      obtain ⟨a3, c3, hv, hr1, -⟩ := row_of_owns (show wr.ownsRow wc.heap.size 36 1 u9 s.legs.length _ from O1.out)
      have HR1 := hid (show Row wr a3 ((wsOf s).map (.int .u32)) by have h := hr1; rw [List.take_of_length_le (by rw [ws_len]; exact Nat.le_refl _)] at h; exact h)
      subst hv
      have M2 := hid (M0.out.kept B1.out)
      have m2 := M2.out.bs.cell 2 rfl
      have nw := ws_len s
      have hV : shareV s.fare (wsOf s) = shareL s.fare (wsOf s) := by unfold shareV; rw [if_pos HE.out]
      have hlen := shareV_len HE.out
      rw [nw] at hlen
      have HV := hid hV
      have HL := hid hlen
      have NW := hid nw
      have B1z : w.heap.size + 3 ≤ wr.heap.size := Nat.le_trans zc B1.out.size
      clear hr1 O1 B1 M0 hk hlt nw hV hlen
      go_wp2_with fail
      rw [← NW.out]
      refine (share_any s.fare (wsOf s) a3 c3 wr HR1.out HP.out (by rw [NW.out]; omega)).mono ?_
      rintro e w5 ⟨v4, rfl, ho4, hb4, -⟩
      rw [NW.out]
      obtain ⟨a4, c4, rfl, hr4, -, hx4⟩ := owns_slice ho4
      rw [HL.out, HE.out]
      rw [HV.out] at hr4
      have HX4 := hid hx4
      have ZR := hid B1z
      clear ho4 hx4 B1z
      have HR4 := hid hr4
      have M3 := hid (M2.out.kept hb4)
      clear hr4 hb4 m2 M2 HR1
      have k0 := M3.out.bs.cell 0 rfl
      have k1 := M3.out.bs.cell 1 rfl
      have k2 := M3.out.bs.cell 2 rfl
      have k3 := M3.out.bs.cell 3 rfl
      have k4 := M3.out.bs.cell 4 rfl
      have t0 := M3.out.bt.cell 0 rfl
      have t1 := M3.out.bt.cell 1 rfl
      have HT := hid (M3.out.bd.there (n := 17) (Nat.le_refl _))
      have hst := doc_store (w := w5) (b := w.heap.size + 1 + 1) (docCells c r s ⟨a1, c1, a2, c2⟩ a4 c4) rfl (by simp [docCells, Value.oneCell']) HT.out
      have hrg := World.rangeAt_setCells_same w5 (w.heap.size + 1 + 1) 0 (docCells c r s ⟨a1, c1, a2, c2⟩ a4 c4) HT.out
      have hgs := grownBy_setCells (w.heap.size + 1 + 1) (docCells c r s ⟨a1, c1, a2, c2⟩ a4 c4) 0 w5
      unfold docCells at hst hrg hgs
      have HR := hid hrg
      have HG := hid hgs
      clear hrg hgs
      go_wp2
      have hl := doc_load (cells := (docCells c r s ⟨a1, c1, a2, c2⟩ a4 c4).toArray) rfl HR.out
      unfold docCells at hl
      have hgg := HG.out
      generalize w5.setCells (w.heap.size + 1 + 1) 0 _ = wf at *
      refine bodyPost_ret (v := .tuple #[docV c r s ⟨a1, c1, a2, c2⟩ a4 c4, .int .i64 0]) (make_results rfl rfl hl) rfl ⟨⟨a1, c1, a2, c2⟩, a4, c4, rfl, ⟨M3.out.sa.legs.grown hgg (fun x h e => ?_), M3.out.sa.taxes.grown hgg (fun x h e => ?_), M3.out.sa.lnil, M3.out.sa.tnil⟩, HR4.out.grown hgg (fun x h e => ?_), M3.out.b.grown hgg M3.out.b.size (fun k hk => by cases hk; omega)⟩
      · have := M3.out.lx x h; have := Option.some.inj e; omega
      · have := M3.out.tx x h; have := Option.some.inj e; omega
      · have := HX4.out x h; have := ZR.out; have := Option.some.inj e; omega
end Go.Proofs.YtlamaakconjkcaaGreat
end
