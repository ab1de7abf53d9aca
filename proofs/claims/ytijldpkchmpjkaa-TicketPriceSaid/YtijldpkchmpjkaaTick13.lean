/- TicketAlone: what coupons are worth hangs on the fare and the weights alone. -/
import Derived.Test.YtijldpkchmpjkaaTick12
import Derived.Deep.LoopGhost
namespace Go.Proofs.Ytijldpkchmpjkaa
open Go.RowKit Go.Lib Go.Tk Go.Sort Go.Shelf

abbrev saleCells (s : SaleV) (A : SaleA) : Array Value := #[.string s.name, .slice A.la s.legs.length A.lc, .int .i64 s.fare, .slice A.ta s.taxes.length A.tc, .int .i64 s.pen]

/-- what lies where, in TicketAlone -/
structure St (w wx : World) (c r c' r' : Int) (s : SaleV) (A : SaleA) (o : SaleV) (Ao : SaleA) : Prop where
  bt : Box wx w.heap.size #[.int .u8 c, .int .u64 r]
  bu : Box wx (w.heap.size + 1) #[.int .u8 c', .int .u64 r']
  bs : Box wx (w.heap.size + 1 + 1) #[.string s.name, .slice A.la s.legs.length A.lc, .int .i64 s.fare, .slice A.ta s.taxes.length A.tc, .int .i64 s.pen]
  bo : Box wx (w.heap.size + 1 + 1 + 1) #[.string o.name, .slice Ao.la o.legs.length Ao.lc, .int .i64 o.fare, .slice Ao.ta o.taxes.length Ao.tc, .int .i64 o.pen]
  b : Below w.heap.size w wx
  z : w.heap.size + 4 ≤ wx.heap.size
theorem St.kept {w wx w' : World} {c r c' r' : Int} {s : SaleV} {A : SaleA} {o : SaleV} {Ao : SaleA} (h : St w wx c r c' r' s A o Ao) (hb : Below wx.heap.size wx w') : St w w' c r c' r' s A o Ao :=
  ⟨h.bt.kept hb, h.bu.kept hb, h.bs.kept hb, h.bo.kept hb, Go.Tk.bt h.b hb, Nat.le_trans h.z hb.size⟩

theorem St.grown {w wx w' : World} {g : Nat} {c r c' r' : Int} {s : SaleV} {A : SaleA} {o : SaleV} {Ao : SaleA} (h : St w wx c r c' r' s A o Ao) (hg : wx.grownBy w' (some g)) (hge : w.heap.size + 4 ≤ g) : St w w' c r c' r' s A o Ao := by
  have q : ∀ k, k < w.heap.size + 4 → some g ≠ some k := fun k hk e => by have := Option.some.inj e; omega
  exact ⟨h.bt.grown hg (q _ (by omega)), h.bu.grown hg (q _ (by omega)), h.bs.grown hg (q _ (by omega)), h.bo.grown hg (q _ (by omega)), h.b.grown hg h.b.size (fun k hk => by cases hk; omega), Nat.le_trans h.z hg.size⟩

theorem cells_setW (v : Int) : ∀ (l : List Leg) (k : Nat) (h : k < l.length), (cellsL encLeg l).set (k * 3 + 2) (.int .u32 v) = cellsL encLeg (l.set k { l[k] with x := v })
  | [], _, h => by simp at h
  | y :: l, 0, _ => by simp [cellsL, encLeg]
  | y :: l, k + 1, h => by
    have ih := cells_setW v l k (by simpa using h)
    have e : ∀ (x : Leg) (m : List Leg), cellsL encLeg (x :: m) = encLeg x ++ cellsL encLeg m := fun x m => by simp [cellsL]
    rw [e, List.set_cons_succ, e]
    have e2 : (k + 1) * 3 + 2 = (encLeg y).length + (k * 3 + 2) := by rw [encLeg_len]; omega
    rw [e2, List.set_append_right _ _ (by omega), Nat.add_sub_cancel_left, ih]
    rfl

/-- weights taken over, one by one -/
def mixL (s : List Leg) (o : List Leg) : Nat → List Leg
  | 0 => o
  | k + 1 => (mixL s o k).set k { (mixL s o k).getD k default with x := (s.getD k default).x }
theorem mixL_len (s o : List Leg) : ∀ k, (mixL s o k).length = o.length
  | 0 => rfl
  | k + 1 => by unfold mixL; rw [List.length_set]; exact mixL_len s o k
theorem mixL_x (s o : List Leg) : ∀ k, k ≤ o.length → ∀ i, i < k → ((mixL s o k).getD i default).x = (s.getD i default).x
  | 0, _, i, h => by omega
  | k + 1, hk, i, h => by
    unfold mixL
    by_cases hi : i = k
    · subst hi
      have : i < (mixL s o i).length := by rw [mixL_len]; omega
      simp [List.getD_eq_getElem?_getD, this]
    · have ih := mixL_x s o k (by omega) i (by omega)
      rw [← ih]
      simp [List.getD_eq_getElem?_getD, Ne.symm hi]
theorem mixL_ws {s o : List Leg} (h : o.length = s.length) : (mixL s o o.length).map (·.x) = s.map (·.x) := by
  refine List.ext_getElem (by simp [mixL_len, h]) fun i h1 h2 => ?_
  have hi : i < o.length := by simpa [mixL_len] using h1
  have := mixL_x s o o.length (Nat.le_refl _) i hi
  have l1 : i < (mixL s o o.length).length := by rw [mixL_len]; exact hi
  have l2 : i < s.length := by omega
  simpa [List.getD_eq_getElem?_getD, l1, l2] using this
theorem mixL_ok {s o : List Leg} (hs : ∀ l ∈ s, LegOk l) (ho : ∀ l ∈ o, LegOk l) : ∀ k, k ≤ o.length → k ≤ s.length → ∀ l ∈ mixL s o k, LegOk l
  | 0, _, _ => ho
  | k + 1, hk, hk2 => fun l hl => by
    have ih := mixL_ok hs ho k (by omega) (by omega)
    unfold mixL at hl
    rcases List.mem_or_eq_of_mem_set hl with h | rfl
    · exact ih l h
    · have l1 : k < (mixL s o k).length := by rw [mixL_len]; omega
      have e1 : (mixL s o k).getD k default = (mixL s o k)[k] := by simp [List.getD_eq_getElem?_getD, l1]
      have e2 : s.getD k default = s[k] := by simp [List.getD_eq_getElem?_getD, show k < s.length by omega]
      have h1 := ih _ (List.getElem_mem l1)
      have h2 := hs _ (List.getElem_mem (show k < s.length by omega))
      rw [e1, e2]
      exact ⟨h1.1, h1.2.1, h2.2.2⟩

/-- the other sale, with the one's fare, and k of its weights -/
def mixS (s o : SaleV) (k : Nat) : SaleV := { o with fare := s.fare, legs := mixL s.legs o.legs k }

set_option maxRecDepth 100000 in
set_option maxHeartbeats 4000000 in
theorem alone_great (c r c' r' n : Int) (s : SaleV) (A : SaleA) (o : SaleV) (Ao : SaleA) (w : World) (h1 : s.legs.length ≤ maxLen) (h2 : s.taxes.length ≤ maxLen) (h3 : s.name.size ≤ maxLen) (h4 : o.legs.length ≤ maxLen) (h5 : o.taxes.length ≤ maxLen) (h6 : o.name.size ≤ maxLen)
    (hg : greatB s = true ∨ greatB o = true) :
    Calls Try.prog 8 #[.agg #[.int .u8 c, .int .u64 r], .agg #[.int .u8 c', .int .u64 r'], saleAgg s A, saleAgg o Ao, .int .i64 n] w fun e w' => e = .returned (.bool true) ∧ Below w.heap.size w w' := by
  obtain ⟨la, lc, ta, tc⟩ := A
  obtain ⟨oa, oc, ua, uc⟩ := Ao
  have K1 := hid (fun w' => great_any s ⟨la, lc, ta, tc⟩ w' h1 h2 h3)
  have K2 := hid (fun w' => great_any o ⟨oa, oc, ua, uc⟩ w' h4 h5 h6)
  clear h1 h2 h3 h4 h5 h6
  unfold saleAgg at K1 K2 ⊢
  dsimp only at K1 K2 ⊢
  cases hs : greatB s with
  | true =>
    have HS := hid hs
    clear hs hg
    go_enter Try.func8, Try.ntmps8
    go_wp2_with fail
    refine (K1.out _).mono ?_
    rintro e w2 ⟨rfl, hb2⟩
    rw [HS.out]
    have B2 := hid (((((below_alloc w (.cells #[.int .u8 c, .int .u64 r] 45)).alloc (by simp) (.cells #[.int .u8 c', .int .u64 r'] 45)).alloc (by simp; omega) (.cells #[.string s.name, .slice la s.legs.length lc, .int .i64 s.fare, .slice ta s.taxes.length tc, .int .i64 s.pen] 49)).alloc (by simp; omega) (.cells #[.string o.name, .slice oa o.legs.length oc, .int .i64 o.fare, .slice ua o.taxes.length uc, .int .i64 o.pen] 49)).trans (hb2.mono (by simp; omega)))
    clear hb2
    go_wp2_with fail
    refine (wakes9 _).mono ?_
    rintro e w3 ⟨rfl, hb3⟩
    go_wp2
    go_ret
    exact ⟨rfl, bt B2.out hb3⟩
  | false =>
    have ho : greatB o = true := by rcases hg with h | h <;> simp_all
    have HS := hid hs
    have HO := hid ho
    clear hs hg ho
    go_enter Try.func8, Try.ntmps8
    go_wp2_with fail
    refine (K1.out _).mono ?_
    rintro e w2 ⟨rfl, hb2⟩
    rw [HS.out]
    have B2 := hid (((((below_alloc w (.cells #[.int .u8 c, .int .u64 r] 45)).alloc (by simp) (.cells #[.int .u8 c', .int .u64 r'] 45)).alloc (by simp; omega) (.cells #[.string s.name, .slice la s.legs.length lc, .int .i64 s.fare, .slice ta s.taxes.length tc, .int .i64 s.pen] 49)).alloc (by simp; omega) (.cells #[.string o.name, .slice oa o.legs.length oc, .int .i64 o.fare, .slice ua o.taxes.length uc, .int .i64 o.pen] 49)).trans (hb2.mono (by simp; omega)))
    have xo := (Box.new (w := ((w.alloc (.cells #[.int .u8 c, .int .u64 r] 45)).alloc (.cells #[.int .u8 c', .int .u64 r'] 45)).alloc (.cells #[.string s.name, .slice la s.legs.length lc, .int .i64 s.fare, .slice ta s.taxes.length tc, .int .i64 s.pen] 49)) (vs := #[.string o.name, .slice oa o.legs.length oc, .int .i64 o.fare, .slice ua o.taxes.length uc, .int .i64 o.pen]) (E := 49) (b := w.heap.size + 1 + 1 + 1) (by simp)).kept hb2
    have k0 := xo.cell 0 rfl
    have k1 := xo.cell 1 rfl
    have k2 := xo.cell 2 rfl
    have k3 := xo.cell 3 rfl
    have k4 := xo.cell 4 rfl
    clear hb2 xo
    go_wp2_with fail
    refine (K2.out _).mono ?_
    rintro e w3 ⟨rfl, hb3⟩
    rw [HO.out]
    clear k0 k1 k2 k3 k4
    go_wp2_with fail
    refine (wakes9 _).mono ?_
    rintro e w4 ⟨rfl, hb4⟩
    go_wp2
    go_ret
    exact ⟨rfl, bt (bt B2.out hb3) hb4⟩
end Go.Proofs.Ytijldpkchmpjkaa
