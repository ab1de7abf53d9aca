/- TicketWhole: the walk where nothing is sold; the laws of its memory. -/
import Derived.Test.YtijldpkchmpjkaaTick20
import Derived.Test.YtijldpkchmpjkaaBoxLoad
import Derived.Test.YtijldpkchmpjkaaWholePlain
import Derived.Laws.MakeOwn
import Derived.Deep.RegionWith
namespace Go.Proofs.Ytijldpkchmpjkaa
open Go.RowKit Go.Lib Go.Tk Go.Sort Go.Shelf
attribute [-go_sem] loadCellsFrom

abbrev saleAr (s : SaleV) (A : SaleA) : Array Value := #[.string s.name, .slice A.la s.legs.length A.lc, .int .i64 s.fare, .slice A.ta s.taxes.length A.tc, .int .i64 s.pen]
theorem great_no9 {s : SaleV} (h : greatB s = false) : s.legs.length ≤ 60 ∧ s.taxes.length ≤ 60 ∧ s.name.size ≤ 200 := by
  simp only [greatB, Bool.or_eq_false_iff, decide_eq_false_iff_not] at h
  omega

set_option maxRecDepth 100000 in
set_option maxHeartbeats 4000000 in
theorem whole_great (c r n : Int) (s : SaleV) (A : SaleA) (wa : Option Addr) (wn wc : Nat) (w : World) (h1 : s.legs.length ≤ maxLen) (h2 : s.taxes.length ≤ maxLen) (h3 : s.name.size ≤ maxLen) (_h4 : wn ≤ maxLen)
    (hg : greatB s = true ∨ 60 < wn) :
    Calls Try.prog 12 #[.agg #[.int .u8 c, .int .u64 r], saleAgg s A, .int .i64 n, .slice wa wn wc] w fun e w' => e = .returned (.bool true) ∧ Below w.heap.size w w' := by
  obtain ⟨la, lc, ta, tc⟩ := A
  have K1 := hid (fun w' => great_any s ⟨la, lc, ta, tc⟩ w' h1 h2 h3)
  clear h1 h2 h3
  unfold saleAgg at K1 ⊢
  dsimp only at K1 ⊢
  obtain ⟨W1, hW1⟩ : ∃ W1, W1 = (w.alloc (.cells #[.int .u8 c, .int .u64 r] 45)).alloc (.cells #[.string s.name, .slice la s.legs.length lc, .int .i64 s.fare, .slice ta s.taxes.length tc, .int .i64 s.pen] 49) := ⟨_, rfl⟩
  have xs : Box W1 (w.heap.size + 1) #[.string s.name, .slice la s.legs.length lc, .int .i64 s.fare, .slice ta s.taxes.length tc, .int .i64 s.pen] := by rw [hW1]; exact Box.new (by simp)
  have b1 : Below w.heap.size w W1 := by rw [hW1]; exact bt (below_alloc _ _) (below_alloc _ _)
  have ld := box_whole (n := 5) xs rfl
  rw [hW1] at ld
  have HW := hid hW1
  clear hW1 xs
  go_enter Try.func12, Try.ntmps12
  go_wp2_with fail
  rw [← HW.out]
  refine (K1.out _).mono ?_
  rintro e w2 ⟨rfl, hb2⟩
  have B2 := hid (bt b1 hb2)
  clear ld b1 hb2 HW K1
  cases hq : greatB s with
  | true =>
    go_wp2_with fail
    refine (wakes9 _).mono ?_
    rintro e w3 ⟨rfl, hb3⟩
    go_wp2
    go_ret
    exact ⟨rfl, bt B2.out hb3⟩
  | false =>
    have hg' : 60 < wn := by rcases hg with h | h; exact absurd (hq.symm.trans h) (by decide); exact h
    clear hg hq
    go_wp2_with fail
    refine (wakes9 _).mono ?_
    rintro e w3 ⟨rfl, hb3⟩
    go_wp2
    go_ret
    exact ⟨rfl, bt B2.out hb3⟩

set_option maxRecDepth 100000 in
set_option maxHeartbeats 8000000 in
theorem whole_none (c r n : Int) (s : SaleV) (A : SaleA) (wa : Option Addr) (wn wc : Nat) (w : World) (hs : SaleAt w s A) (ok : SaleOk s) (hc0 : 0 ≤ c) (hc1 : c ≤ 255) (hg : greatB s = false) (h4 : wn ≤ 60) (he : makeE c r s n ≠ 0) :
    Calls Try.prog 12 #[.agg #[.int .u8 c, .int .u64 r], saleAgg s A, .int .i64 n, .slice wa wn wc] w fun e w' => e = .returned (.bool true) ∧ Below w.heap.size w w' := by
  obtain ⟨la, lc, ta, tc⟩ := A
  have gn := great_no9 hg
  have K1 := hid (fun w' => great_any s ⟨la, lc, ta, tc⟩ w' (by unfold maxLen; omega) (by unfold maxLen; omega) ok.name)
  have KM := hid (fun w' (hb : Below w.heap.size w w') => make_any c r n s ⟨la, lc, ta, tc⟩ w' (hs.kept hb) ok hc0 hc1)
  have HG := hid hg
  have HE := hid he
  clear hs ok hg gn he
  unfold saleAgg at K1 KM ⊢
  dsimp only at K1 KM ⊢
  obtain ⟨W1, hW1⟩ : ∃ W1, W1 = (w.alloc (.cells #[.int .u8 c, .int .u64 r] 45)).alloc (.cells #[.string s.name, .slice la s.legs.length lc, .int .i64 s.fare, .slice ta s.taxes.length tc, .int .i64 s.pen] 49) := ⟨_, rfl⟩
  have xt : Box W1 w.heap.size #[.int .u8 c, .int .u64 r] := by rw [hW1]; exact (Box.new rfl).kept (below_alloc _ _)
  have xs : Box W1 (w.heap.size + 1) #[.string s.name, .slice la s.legs.length lc, .int .i64 s.fare, .slice ta s.taxes.length tc, .int .i64 s.pen] := by rw [hW1]; exact Box.new (by simp)
  have b1 : Below w.heap.size w W1 := by rw [hW1]; exact bt (below_alloc _ _) (below_alloc _ _)
  have ld := box_whole (n := 5) xs rfl
  rw [hW1] at ld
  have HW := hid hW1
  clear hW1
  go_enter Try.func12, Try.ntmps12
  go_wp2_with fail
  rw [← HW.out]
  refine (K1.out _).mono ?_
  rintro e w2 ⟨rfl, hb2⟩
  rw [HG.out]
  have B2 := hid (bt b1 hb2)
  clear ld
  have ld := box_whole (n := 5) (xs.kept hb2) rfl
  have lt := box_whole (n := 2) (xt.kept hb2) rfl
  clear b1 hb2 HW K1 xs xt
  go_wp2_with fail
  refine (KM.out _ B2.out).mono ?_
  rintro e w3 (⟨h0, -⟩ | ⟨-, rfl, hb3⟩)
  · exact absurd h0 HE.out
  have B3 := hid (bt B2.out hb3)
  clear KM B2 hb3 ld lt
  have q : (makeE c r s n != 0) = true := by rw [bne_iff_ne]; exact HE.out
  generalize makeE c r s n = me at *
  unfold zeroDoc
  go_wp2_with fail
  refine (wakes9 _).mono ?_
  rintro e w4 ⟨rfl, hb4⟩
  go_wp2
  go_ret
  exact ⟨rfl, bt (bt B3.out (below_alloc _ _)) hb4⟩
end Go.Proofs.Ytijldpkchmpjkaa
namespace Go.Proofs.Ytijldpkchmpjkaa
open Go.RowKit Go.Lib Go.Tk Go.Sort Go.Shelf
attribute [-go_sem] loadCellsFrom

abbrev dAr (c r : Int) (s : SaleV) (D : SaleA) (va : Option Addr) (vc : Nat) (bk kp : Int) : Array Value :=
  #[.int .u8 c, .int .u64 r, .string s.name, .slice D.la s.legs.length D.lc, .int .i64 s.fare, .slice D.ta s.taxes.length D.tc, .int .i64 s.pen, .slice va s.legs.length vc, .int .u8 0, .int .u64 0, .int .u8 0, .int .u64 0, .int .i64 0, .int .i64 s.fare, .int .i64 bk, .int .i64 kp, .int .i64 0]
def dV (c r : Int) (s : SaleV) (V : List Int) (bk kp : Int) : DocV := ⟨c, r, s, V, 0, 0, 0, 0, 0, s.fare, bk, kp, 0⟩

/-- what lies where, in TicketWhole -/
structure WhAt (w wx : World) (c r : Int) (s : SaleV) (A D : SaleA) (b g1 g2 : Nat) (va : Option Addr) (vc : Nat) (V : List Int) (bk kp : Int) (st : List Int) (pd : List Bool) : Prop where
  xt : Box wx w.heap.size #[.int .u8 c, .int .u64 r]
  xs : Box wx (w.heap.size + 1) (saleAr s A)
  xd : Box wx b (dAr c r s D va vc bk kp)
  x1 : Box wx g1 (st.map (.int .u8)).toArray
  x2 : Box wx g2 (pd.map .bool).toArray
  v : Row wx va (V.map (.int .i64))
  vb : ∀ x, va = some x → x.block < b
  bel : Below w.heap.size w wx
  o1 : w.heap.size + 1 < b
  o2 : b < g1
  o3 : g1 < g2
theorem WhAt.kept {w wx w' : World} {c r : Int} {s : SaleV} {A D : SaleA} {b g1 g2 : Nat} {va : Option Addr} {vc : Nat} {V : List Int} {bk kp : Int} {st : List Int} {pd : List Bool} (h : WhAt w wx c r s A D b g1 g2 va vc V bk kp st pd) (hb : Below wx.heap.size wx w') :
    WhAt w w' c r s A D b g1 g2 va vc V bk kp st pd :=
  ⟨h.xt.kept hb, h.xs.kept hb, h.xd.kept hb, h.x1.kept hb, h.x2.kept hb, h.v.kept hb, h.vb, bt h.bel hb, h.o1, h.o2, h.o3⟩
theorem row_box {w : World} {b : Nat} {vs : List Value} (h : Box w b vs.toArray) : Row w (some ⟨b, 0, none⟩) vs := fun i hi => ⟨b, 0, rfl, by rw [Nat.zero_add]; rw [h.cell i (v := vs[i]) (by simp [hi])]; simp [List.getD_eq_getElem?_getD, hi]⟩
theorem map_setI {k : IntKind} (l : List Int) (i : Nat) (x : Int) : ((l.map (.int k)).toArray).setIfInBounds i (.int k x) = ((l.set i x).map (Value.int k)).toArray := by
  rw [List.setIfInBounds_toArray, List.map_set]
theorem map_setB (l : List Bool) (i : Nat) (x : Bool) : ((l.map .bool).toArray).setIfInBounds i (.bool x) = ((l.set i x).map Value.bool).toArray := by
  rw [List.setIfInBounds_toArray, List.map_set]
theorem WhAt.set1 {w wx : World} {c r : Int} {s : SaleV} {A D : SaleA} {b g1 g2 : Nat} {va : Option Addr} {vc : Nat} {V : List Int} {bk kp : Int} {st : List Int} {pd : List Bool} (h : WhAt w wx c r s A D b g1 g2 va vc V bk kp st pd) (i : Nat) (x : Int) :
    WhAt w (wx.setCell ⟨g1, i, none⟩ (.int .u8 x)) c r s A D b g1 g2 va vc V bk kp (st.set i x) pd := by
  have o1 := h.o1; have o2 := h.o2; have o3 := h.o3
  refine ⟨h.xt.other (by omega), h.xs.other (by omega), h.xd.other (by omega), ?_, h.x2.other (by omega), h.v.grown (grownBy_setCell' _ _ _ _) (fun x hx e => by have := h.vb x hx; have := Option.some.inj e; omega), h.vb, h.bel.setCell (by show w.heap.size ≤ g1; omega) _, o1, o2, o3⟩
  rw [← map_setI]; exact h.x1.set i _
theorem WhAt.set2 {w wx : World} {c r : Int} {s : SaleV} {A D : SaleA} {b g1 g2 : Nat} {va : Option Addr} {vc : Nat} {V : List Int} {bk kp : Int} {st : List Int} {pd : List Bool} (h : WhAt w wx c r s A D b g1 g2 va vc V bk kp st pd) (i : Nat) (x : Bool) :
    WhAt w (wx.setCell ⟨g2, i, none⟩ (.bool x)) c r s A D b g1 g2 va vc V bk kp st (pd.set i x) := by
  have o1 := h.o1; have o2 := h.o2; have o3 := h.o3
  refine ⟨h.xt.other (by omega), h.xs.other (by omega), h.xd.other (by omega), h.x1.other (by omega), ?_, h.v.grown (grownBy_setCell' _ _ _ _) (fun x hx e => by have := h.vb x hx; have := Option.some.inj e; omega), h.vb, h.bel.setCell (by show w.heap.size ≤ g2; omega) _, o1, o2, o3⟩
  rw [← map_setB]; exact h.x2.set i _
theorem WhAt.setD {w wx : World} {c r : Int} {s : SaleV} {A D : SaleA} {b g1 g2 : Nat} {va : Option Addr} {vc : Nat} {V : List Int} {bk kp bk' kp' : Int} {st : List Int} {pd : List Bool} (h : WhAt w wx c r s A D b g1 g2 va vc V bk kp st pd) (i : Nat) (u : Value)
    (he : (dAr c r s D va vc bk kp).setIfInBounds i u = dAr c r s D va vc bk' kp') :
    WhAt w (wx.setCell ⟨b, i, none⟩ u) c r s A D b g1 g2 va vc V bk' kp' st pd := by
  have o1 := h.o1; have o2 := h.o2; have o3 := h.o3
  refine ⟨h.xt.other (by omega), h.xs.other (by omega), ?_, h.x1.other (by omega), h.x2.other (by omega), h.v.grown (grownBy_setCell' _ _ _ _) (fun x hx e => by have := h.vb x hx; have := Option.some.inj e; omega), h.vb, h.bel.setCell (by show w.heap.size ≤ b; omega) _, o1, o2, o3⟩
  rw [← he]; exact h.xd.set i _
theorem made_ints {k : IntKind} {m : Nat} : madeCells (Value.int k 0).cells (m * 1) = Array.replicate m (Value.int k 0) := by
  unfold madeCells
  refine Array.ext (by simp) fun i h1 h2 => ?_
  simp [Value.cells, Nat.mod_one]
theorem made_bools {m : Nat} : madeCells (Value.bool false).cells (m * 1) = Array.replicate m (Value.bool false) := by
  unfold madeCells
  refine Array.ext (by simp) fun i h1 h2 => ?_
  simp [Value.cells, Nat.mod_one]
theorem rep_ints {k : IntKind} {m : Nat} : Array.replicate m (Value.int k 0) = ((List.replicate m (0 : Int)).map (Value.int k)).toArray := by simp
theorem rep_bools {m : Nat} : Array.replicate m (Value.bool false) = ((List.replicate m false).map Value.bool).toArray := by simp
theorem u8info : (Try.prog.info? 72).map (fun i => (i.zero, i.size, i.bytes)) = some (some (.int .u8 0), 1, 1) := by kernel_rfl
theorem boolinfo : (Try.prog.info? 4).map (fun i => (i.zero, i.size, i.bytes)) = some (some (.bool false), 1, 1) := by kernel_rfl
theorem make_st (m : Nat) (hm : m ≤ 1000) (w : World) : (Instr.makeSlice 66 (.int .i64 (m : Int)) (.int .i64 (m : Int))).run Try.prog w = .ok (.slice (some ⟨w.heap.size, 0, none⟩) m m) (w.alloc (.cells (Array.replicate m (Value.int .u8 0)) 72)) := by
  obtain ⟨i, hi, hq⟩ := Option.map_eq_some_iff.1 u8info
  simp only [Prod.mk.injEq] at hq
  have := run_make (P := Try.prog) w 66 72 i (.int .u8 0) Try.underlying66 hi hq.1 .i64 .i64 m m (by omega) (Int.le_refl _) (by rw [hq.2.2]; omega) (by omega)
  rw [hq.2.1, Int.toNat_natCast, made_ints] at this
  exact this
theorem make_pd (m : Nat) (hm : m ≤ 1000) (w : World) : (Instr.makeSlice 67 (.int .i64 (m : Int)) (.int .i64 (m : Int))).run Try.prog w = .ok (.slice (some ⟨w.heap.size, 0, none⟩) m m) (w.alloc (.cells (Array.replicate m (Value.bool false)) 4)) := by
  obtain ⟨i, hi, hq⟩ := Option.map_eq_some_iff.1 boolinfo
  simp only [Prod.mk.injEq] at hq
  have := run_make (P := Try.prog) w 67 4 i (.bool false) Try.underlying67 hi hq.1 .i64 .i64 m m (by omega) (Int.le_refl _) (by rw [hq.2.2]; omega) (by omega)
  rw [hq.2.1, Int.toNat_natCast, made_bools] at this
  exact this
theorem madeDocV {c r : Int} {s : SaleV} {D : SaleA} {va : Option Addr} {vc : Nat} : docV c r s D va vc = .agg (dAr c r s D va vc 0 0) := rfl
theorem dV_agg {c r : Int} {s : SaleV} {D : SaleA} {va : Option Addr} {vc : Nat} {V : List Int} {bk kp : Int} (h : V.length = s.legs.length) : docAgg (dV c r s V bk kp) ⟨D, va, vc⟩ = .agg (dAr c r s D va vc bk kp) := by
  unfold docAgg docArr dV dAr
  rw [h]
end Go.Proofs.Ytijldpkchmpjkaa
