/- Tick7, Tick8, Tick9, SortRow, ProPlain, ProLaw, SymPlain. -/
import Derived.Test.YtmhbpifhpolghaaGreatMa6f483f
import Derived.Shelf.SlSortCmp.KitK
import Derived.Sort.Lot0
set_option maxRecDepth 100000
set_option linter.unusedVariables false
set_option linter.unusedSimpArgs false
set_option linter.unusedSectionVars false
section
namespace Go.Proofs.YtmhbpifhpolghaaGreat
open Go.RowKit Go.Lib Go.Tk
theorem owns_slice {w : World} {base : Nat} {E : TypeId} {size n : Nat} {v : Value} {xs : List Value} (h : w.ownsRow base E size v n xs) : ∃ a c, v = .slice a n c ∧ Row w a xs ∧ (a = none → c = 0) ∧ (∀ x, a = some x → base ≤ x.block) := by
  obtain ⟨hl, h1 | ⟨g, cap, cur, hv, h2⟩⟩ := h
  · obtain ⟨rfl, rfl⟩ := h1
    have : xs = [] := List.length_eq_zero_iff.1 (by simpa using hl)
    subst this
    exact ⟨none, 0, rfl, Row.nil, fun _ => rfl, fun x h => by cases h⟩
  · subst hv
    obtain ⟨a, c, hv, hr, _⟩ := row_of_owns (w := w) (base := base) (e := E) (size := size) (v := .slice (some ⟨g, 0, none⟩) n cap) ⟨hl, .inr ⟨g, cap, cur, rfl, h2⟩⟩
    cases hv
    exact ⟨_, _, rfl, hr, (fun h => by cases h), fun x h => by cases h; exact h2.1⟩
structure OwnedS (w : World) (base : Nat) (s : SaleV) (A : SaleA) : Prop where
  legs : w.ownsRow base 48 3 (.slice A.la s.legs.length A.lc) s.legs.length (cellsL encLeg s.legs)
  taxes : w.ownsRow base 172 2 (.slice A.ta s.taxes.length A.tc) s.taxes.length (cellsL encTax s.taxes)
  apart : Apart (.slice A.la s.legs.length A.lc) (.slice A.ta s.taxes.length A.tc)
theorem OwnedS.at {w : World} {base : Nat} {s : SaleV} {A : SaleA} (h : OwnedS w base s A) : SaleAt w s A := by
  obtain ⟨a, c, e, hr, hn, _⟩ := owns_slice h.legs
  cases e
  obtain ⟨a, c, e, hr2, hn2, _⟩ := owns_slice h.taxes
  cases e
  exact ⟨hr, hr2, hn, hn2⟩
theorem OwnedS.kept {w w' : World} {base : Nat} {s : SaleV} {A : SaleA} (h : OwnedS w base s A) (hb : Below w.heap.size w w') : OwnedS w' base s A :=
  ⟨ownsRow_below h.legs hb, ownsRow_below h.taxes hb, h.apart⟩
theorem sale_eq {s o : SaleV} : s = o ↔ s.name = o.name ∧ s.fare = o.fare ∧ s.pen = o.pen ∧ s.legs = o.legs ∧ s.taxes = o.taxes := by
  constructor
  · intro h; subst h; exact ⟨rfl, rfl, rfl, rfl, rfl⟩
  · intro ⟨h1, h2, h3, h4, h5⟩; cases s; cases o; simp_all
set_option maxRecDepth 100000 in
set_option maxHeartbeats 2000000 in
theorem same_any (s o : SaleV) (A B : SaleA) (w : World) (hs : SaleAt w s A) (ho : SaleAt w o B) (l1 : s.legs.length ≤ 1000) (l2 : o.legs.length ≤ 1000) (l3 : s.taxes.length ≤ 1000) (l4 : o.taxes.length ≤ 1000) :
    Calls Tryz.prog 95 #[saleAgg s A, saleAgg o B] w fun e w' => e = .returned (.bool (decide (s = o))) ∧ Below w.heap.size w w' := by
  have K1 := hid (fun w' (hb : Below w.heap.size w w') => eqLeg_any s.legs o.legs A.la B.la _ _ A.lc B.lc w' rfl rfl (hs.legs.kept hb) (ho.legs.kept hb) (by omega) (by omega))
  have K2 := hid (fun w' (hb : Below w.heap.size w w') => eqTax_any s.taxes o.taxes A.ta B.ta _ _ A.tc B.tc w' rfl rfl (hs.taxes.kept hb) (ho.taxes.kept hb) (by omega) (by omega))
  have hb : ∀ X Y, Below w.heap.size w ((w.alloc X).alloc Y) := fun X Y => (below_alloc w X).alloc (by simp) Y
  have HB := hid hb
  clear hs ho hb
  unfold saleAgg
  by_cases h1 : s.name = o.name
  · by_cases h2 : s.fare = o.fare
    · by_cases h3 : s.pen = o.pen
      · have F := hid (show decide (s = o) = (decide (s.legs = o.legs) && decide (s.taxes = o.taxes)) by
          rw [Bool.eq_iff_iff]; simp [sale_eq, h1, h2, h3])
        rw [← h1, ← h2, ← h3]
        clear h1 h2 h3
        cases hl : decide (s.legs = o.legs) with
        | false =>
          have G := hid (show decide (s = o) = false by rw [F.out, hl]; rfl)
          go_enter Tryz.func95, Tryz.ntmps95
          go_wp2_with fail
          refine (K1.out _ (HB.out _ _)).mono ?_
          rintro e w2 ⟨rfl, hb2⟩
          rw [hl]
          clear hl
          go_wp2
          go_ret
          exact ⟨ret_bool G.out.symm, (HB.out _ _).trans (hb2.mono (by simp; omega))⟩
        | true =>
          have G := hid (show decide (s = o) = decide (s.taxes = o.taxes) by rw [F.out, hl]; rfl)
          go_enter Tryz.func95, Tryz.ntmps95
          go_wp2_with fail
          refine (K1.out _ (HB.out _ _)).mono ?_
          rintro e w2 ⟨rfl, hb2⟩
          rw [hl]
          clear hl
          have b2 := (HB.out (.cells #[.string s.name, .slice A.la s.legs.length A.lc, .int .i64 s.fare, .slice A.ta s.taxes.length A.tc, .int .i64 s.pen] 36) (.cells #[.string s.name, .slice B.la o.legs.length B.lc, .int .i64 s.fare, .slice B.ta o.taxes.length B.tc, .int .i64 s.pen] 36)).trans (hb2.mono (by simp; omega))
          have x1 := ((Box.new (w := w) (vs := #[.string s.name, .slice A.la s.legs.length A.lc, .int .i64 s.fare, .slice A.ta s.taxes.length A.tc, .int .i64 s.pen]) (E := 36) rfl).kept (below_alloc _ (.cells #[.string s.name, .slice B.la o.legs.length B.lc, .int .i64 s.fare, .slice B.ta o.taxes.length B.tc, .int .i64 s.pen] 36))).kept hb2
          have x2 := (Box.new (w := w.alloc (.cells #[.string s.name, .slice A.la s.legs.length A.lc, .int .i64 s.fare, .slice A.ta s.taxes.length A.tc, .int .i64 s.pen] 36)) (vs := #[.string s.name, .slice B.la o.legs.length B.lc, .int .i64 s.fare, .slice B.ta o.taxes.length B.tc, .int .i64 s.pen]) (E := 36) (b := w.heap.size + 1) (by simp)).kept hb2
          have k1 := x1.cell 3 rfl
          have k2 := x2.cell 3 rfl
          have B2 := hid b2
          clear x1 x2 hb2 b2
          go_wp2_with fail
          refine (K2.out _ B2.out).mono ?_
          rintro e w3 ⟨rfl, hb3⟩
          clear k1 k2
          generalize decide (s.taxes = o.taxes) = q at *
          go_wp2
          go_ret
          exact ⟨ret_bool G.out.symm, bt B2.out hb3⟩
      · have G := hid (show decide (s = o) = false from decide_eq_false (by rw [sale_eq]; simp [h3]))
        rw [← h1, ← h2]
        have q1 := beq_eq_false_iff_ne.2 h3
        clear h1 h2 h3
        go_enter Tryz.func95, Tryz.ntmps95
        go_wp2
        go_ret
        exact ⟨ret_bool G.out.symm, HB.out _ _⟩
    · have G := hid (show decide (s = o) = false from decide_eq_false (by rw [sale_eq]; simp [h2]))
      rw [← h1]
      have q1 := beq_eq_false_iff_ne.2 h2
      clear h1 h2
      go_enter Tryz.func95, Tryz.ntmps95
      go_wp2
      go_ret
      exact ⟨ret_bool G.out.symm, HB.out _ _⟩
  · have G := hid (show decide (s = o) = false from decide_eq_false (by rw [sale_eq]; simp [h1]))
    have q1 := ba_toList_ne h1
    clear h1
    go_enter Tryz.func95, Tryz.ntmps95
    go_wp2
    go_ret
    exact ⟨ret_bool G.out.symm, HB.out _ _⟩
end Go.Proofs.YtmhbpifhpolghaaGreat
end
section
namespace Go.Tk
open Go.RowKit Go.Lib Go.Sort Go.Proofs
variable {α : Type} [Inhabited α] {enc : α → List Value} {k : Nat}
theorem flat_get (hk : ∀ x, (enc x).length = k) (d : Array α) (t : Nat) (h : t < d.size * k) : ((d.toList.map enc).flatten).getD t undef = (flatK enc k d)[t]! := by
  have k0 : 0 < k := by
    rcases Nat.eq_zero_or_pos k with e | e
    · subst e; simp at h
    · exact e
  rw [get_flatK _ _ _ _ h]
  have hq : t / k < d.size := (Nat.div_lt_iff_lt_mul k0).2 h
  have e1 : ∀ (l : List α) (t : Nat), t < l.length * k → ((l.map enc).flatten)[t]? = ((l[t / k]?).map fun x => (enc x).getD (t % k) undef) := by
    intro l
    induction l with
    | nil => intro t h; simp at h
    | cons x l ih =>
      intro t h
      rw [List.map_cons, List.flatten_cons]
      by_cases ht : t < k
      · rw [List.getElem?_append_left (by rw [hk]; exact ht), Nat.div_eq_of_lt ht, Nat.mod_eq_of_lt ht]
        simp [List.getD_eq_getElem?_getD, hk, ht]
      · have h2 : t < l.length * k + k := by rw [List.length_cons, Nat.add_mul, Nat.one_mul] at h; exact h
        have e1 : t / k = (t - k) / k + 1 := Nat.div_eq_sub_div k0 (by omega)
        have e2 : t % k = (t - k) % k := Nat.mod_eq_sub_mod (by omega)
        rw [List.getElem?_append_right (by rw [hk]; omega), hk, ih (t - k) (by omega), e1, e2]
        simp
  rw [List.getD_eq_getElem?_getD, e1 d.toList t (by simpa using h)]
  have hm := Nat.mod_lt t k0
  have hz : d[t / k]! = d[t / k] := getElem!_pos d _ hq
  rw [hz]
  have : d.toList[t / k]? = some d[t / k] := by simp [hq]
  rw [this]
  simp only [Option.map_some, Option.getD_some]
  rw [getElem!_pos _ _ (by rw [hk]; exact hm)]
  simp [List.getD_eq_getElem?_getD, hk, hm]
omit [Inhabited α] in
theorem flat_len (hk : ∀ x, (enc x).length = k) (d : Array α) : ((d.toList.map enc).flatten).length = d.size * k := by
  have : ∀ l : List α, ((l.map enc).flatten).length = l.length * k := by
    intro l
    induction l with
    | nil => simp
    | cons x l ih => rw [List.map_cons, List.flatten_cons, List.length_append, ih, hk, List.length_cons, Nat.add_mul]; omega
  simpa using this d.toList
theorem holdsK_of_owns {w : World} {base : Nat} {e : TypeId} {g n cap : Nat} (hk : ∀ x, (enc x).length = k) (d : Array α) (hn : d.size = n) (h : w.ownsRow base e k (.slice (some ⟨g, 0, none⟩) n cap) n ((d.toList.map enc).flatten)) : HoldsK enc k w g 0 d := by
  subst hn
  intro j hj
  have hj' : j < d.size * k := by simpa using hj
  refine ⟨?_, h.frozenAt (0 + j)⟩
  rw [Nat.zero_add, h.cellAt j hj', ← flat_get hk d j hj', List.getD_eq_getElem?_getD]
  have : j < ((d.toList.map enc).flatten).length := by rw [flat_len hk]; exact hj'
  rw [List.getElem?_eq_getElem this]; rfl
theorem row_of_holdsK {w : World} {g : Nat} (hk : ∀ x, (enc x).length = k) (d : Array α) (h : HoldsK enc k w g 0 d) : Row w (some ⟨g, 0, none⟩) ((d.toList.map enc).flatten) := by
  intro i hi
  rw [flat_len hk] at hi
  refine ⟨g, 0, rfl, ?_⟩
  rw [(h i (by simpa using hi)).1, flat_get hk d i hi]; rfl
theorem swk_grown {w0 w : World} {g off : Nat} {d : Array α} (h : SWK enc k w0 g off d w) : w0.grownBy w (some g) := by
  obtain ⟨n, os, rfl⟩ := h
  refine ⟨rfl, rfl, rfl, ?_, fun j hj hne => ?_⟩
  · unfold sortWorldK; rw [size_grow, size_putRowK]; exact Nat.le_add_right _ _
  · unfold sortWorldK
    rw [heap_grow_old _ _ (by rw [size_putRowK]; exact hj)]
    unfold putRowK putRow mapBlock
    rw [Array.getElem?_modify, if_neg (by intro e; exact hne (by rw [e]))]
    rfl
end Go.Tk
end
section
namespace Go.Tk
def lt2 (a b : Int × Nat) : Prop := b.1 < a.1 ∨ (a.1 = b.1 ∧ a.2 < b.2)
instance (a b : Int × Nat) : Decidable (lt2 a b) := by unfold lt2; exact inferInstance
theorem lt2_irrefl (a : Int × Nat) : ¬ lt2 a a := by unfold lt2; omega
theorem lt2_trans {a b c : Int × Nat} (h : lt2 a b) (k : lt2 b c) : lt2 a c := by unfold lt2 at *; omega
theorem lt2_asymm {a b : Int × Nat} (h : lt2 a b) : ¬ lt2 b a := by unfold lt2 at *; omega
theorem lt2_total {a b : Int × Nat} (h : a ≠ b) : lt2 a b ∨ lt2 b a := by
  unfold lt2
  have : a.1 ≠ b.1 ∨ a.2 ≠ b.2 := by
    rcases Decidable.em (a.1 = b.1) with h1 | h1
    · right; intro h2; exact h (Prod.ext h1 h2)
    · exact .inl h1
  omega
theorem sorted_unique : ∀ {S T : List (Int × Nat)}, S.Pairwise lt2 → T.Pairwise lt2 → S.Perm T → S = T
  | [], T, _, _, h => (List.nil_perm.1 h).symm
  | x :: S, [], _, _, h => absurd h.length_eq (by simp)
  | x :: S, y :: T, hS, hT, h => by
    obtain ⟨s1, s2⟩ := List.pairwise_cons.1 hS
    obtain ⟨t1, t2⟩ := List.pairwise_cons.1 hT
    have hxy : x = y := by
      rcases Decidable.em (x = y) with e | e
      · exact e
      · have h1 : x ∈ y :: T := h.mem_iff.1 (List.mem_cons_self)
        have h2 : y ∈ x :: S := h.mem_iff.2 (List.mem_cons_self)
        rcases List.mem_cons.1 h1 with h1 | h1
        · exact absurd h1 e
        · rcases List.mem_cons.1 h2 with h2 | h2
          · exact absurd h2.symm e
          · exact absurd (s1 y h2) (lt2_asymm (t1 x h1))
    subst hxy
    rw [sorted_unique s2 t2 (List.Perm.cons_inv h)]
end Go.Tk
end
section
namespace Go.Tk
def wh (t all w : Int) : Int := t * w / all
def rs (t all w : Int) : Int := t * w % all
def restsL (t all : Int) (ws : List Int) : List (Int × Nat) := (ws.map (rs t all)).zipIdx
def leftN (t all : Int) (ws : List Int) : Nat := (t - (ws.map (wh t all)).sum).toNat
def le2 (a b : Int × Nat) : Bool := !decide (lt2 b a)
def sortL (l : List (Int × Nat)) : List (Int × Nat) := l.mergeSort le2
def chosen (l : List (Int × Nat)) (k : Nat) (i : Nat) : Bool := ((sortL l).take k).any fun x => x.2 == i
def shareL (t : Int) (ws : List Int) : List Int :=
  ws.zipIdx.map fun x => wh t ws.sum x.1 + if chosen (restsL t ws.sum ws) (leftN t ws.sum ws) x.2 then 1 else 0
theorem sortL_perm (l : List (Int × Nat)) : (sortL l).Perm l := List.mergeSort_perm l le2
theorem sortL_sorted {l : List (Int × Nat)} (h : l.Nodup) : (sortL l).Pairwise lt2 := by
  have h1 : (sortL l).Pairwise (fun a b => le2 a b = true) := by
    refine List.pairwise_mergeSort (le := le2) ?_ ?_ l
    · intro a b c h1 h2
      simp only [le2, Bool.not_eq_true', decide_eq_false_iff_not] at *
      unfold lt2 at *; omega
    · intro a b
      simp only [le2, Bool.or_eq_true, Bool.not_eq_true', decide_eq_false_iff_not]
      unfold lt2; omega
  have h2 : (sortL l).Nodup := (sortL_perm l).symm.nodup h
  refine (h1.and h2).imp ?_
  intro a b ⟨h3, h4⟩
  simp only [le2, Bool.not_eq_true', decide_eq_false_iff_not] at h3
  rcases lt2_total h4 with h | h
  · exact h
  · exact absurd h h3
theorem sortL_unique {l S : List (Int × Nat)} (hS : S.Pairwise lt2) (hp : S.Perm l) : S = sortL l := by
  have hn : S.Nodup := hS.imp (fun {a b} (h : lt2 a b) => by intro e; subst e; exact lt2_irrefl a h)
  exact sorted_unique hS (sortL_sorted (hp.nodup hn)) (hp.trans (sortL_perm l).symm)
theorem zipIdx_nodup (l : List Int) : l.zipIdx.Nodup := by
  have : (l.zipIdx.map (·.2)).Nodup := by rw [List.zipIdx_map_snd]; exact List.nodup_range'
  exact (List.pairwise_map.1 this).imp (fun {a b} h e => h (by rw [e]))
theorem rests_sorted (t all : Int) (ws : List Int) : (sortL (restsL t all ws)).Pairwise lt2 := sortL_sorted (zipIdx_nodup _)
theorem mem_rests {t all : Int} {ws : List Int} {x : Int × Nat} (h : x ∈ sortL (restsL t all ws)) : x.2 < ws.length ∧ x.1 = rs t all (ws.getD x.2 0) := by
  have h := (sortL_perm _).mem_iff.1 h
  unfold restsL at h
  obtain ⟨h1, h2⟩ := List.mk_mem_zipIdx_iff_getElem?.1 (show (x.1, x.2) ∈ _ from h) |> fun e => (⟨(List.getElem?_eq_some_iff.1 e).1, e⟩ : ∃ _ : x.2 < (ws.map (rs t all)).length, (ws.map (rs t all))[x.2]? = some x.1)
  have h3 : x.2 < ws.length := by simpa using h1
  refine ⟨h3, ?_⟩
  rw [List.getElem?_map, List.getElem?_eq_getElem h3] at h2
  simp only [Option.map_some, Option.some.injEq] at h2
  rw [← h2]; simp [List.getD_eq_getElem?_getD, h3]
theorem rests_mem {t all : Int} {ws : List Int} {i : Nat} (h : i < ws.length) : (rs t all (ws.getD i 0), i) ∈ sortL (restsL t all ws) := by
  refine (sortL_perm _).mem_iff.2 ?_
  unfold restsL
  refine List.mk_mem_zipIdx_iff_getElem?.2 ?_
  rw [List.getElem?_map, List.getElem?_eq_getElem h]
  simp [List.getD_eq_getElem?_getD, h]
theorem sort_len (t all : Int) (ws : List Int) : (sortL (restsL t all ws)).length = ws.length := by
  rw [(sortL_perm _).length_eq]; simp [restsL]
theorem chosen_iff {t all : Int} {ws : List Int} {k i : Nat} : chosen (restsL t all ws) k i = true ↔ (rs t all (ws.getD i 0), i) ∈ (sortL (restsL t all ws)).take k := by
  unfold chosen
  rw [List.any_eq_true]
  constructor
  · rintro ⟨x, hx, hxi⟩
    have hxi : x.2 = i := by simpa using hxi
    obtain ⟨_, h2⟩ := mem_rests (List.mem_of_mem_take hx)
    rw [hxi] at h2
    have : x = (rs t all (ws.getD i 0), i) := Prod.ext h2 hxi
    rw [← this]; exact hx
  · intro h; exact ⟨_, h, by simp⟩
theorem chosen_succ {t all : Int} {ws : List Int} {k i : Nat} (hk : k < ws.length) :
    chosen (restsL t all ws) (k + 1) i = (chosen (restsL t all ws) k i || ((sortL (restsL t all ws)).getD k (0, 0)).2 == i) := by
  unfold chosen
  have hk' : k < (sortL (restsL t all ws)).length := by rw [sort_len]; exact hk
  rw [List.take_succ_eq_append_getElem hk', List.any_append]
  simp [List.getD_eq_getElem?_getD, hk']
theorem not_chosen_at {t all : Int} {ws : List Int} {k : Nat} (hk : k < ws.length) : chosen (restsL t all ws) k ((sortL (restsL t all ws)).getD k (0, 0)).2 = false := by
  have hk' : k < (sortL (restsL t all ws)).length := by rw [sort_len]; exact hk
  have hm : (sortL (restsL t all ws))[k] ∈ sortL (restsL t all ws) := List.getElem_mem hk'
  obtain ⟨h1, h2⟩ := mem_rests hm
  have e : (sortL (restsL t all ws)).getD k (0, 0) = (sortL (restsL t all ws))[k] := by simp [List.getD_eq_getElem?_getD, hk']
  rw [e]
  cases hc : chosen (restsL t all ws) k (sortL (restsL t all ws))[k].2 with
  | false => rfl
  | true =>
    have := (chosen_iff).1 hc
    rw [← h2] at this
    have hsrt := rests_sorted t all ws
    rw [← List.take_append_drop k (sortL (restsL t all ws)), List.pairwise_append] at hsrt
    have hd : (sortL (restsL t all ws))[k] ∈ (sortL (restsL t all ws)).drop k := by
      rw [List.drop_eq_getElem_cons hk']; exact List.mem_cons_self
    exact absurd (hsrt.2.2 _ this _ hd) (lt2_irrefl _)
theorem sum_map_add {α : Type} (f g : α → Int) : ∀ l : List α, (l.map fun x => f x + g x).sum = (l.map f).sum + (l.map g).sum
  | [] => by simp
  | x :: l => by simp [sum_map_add f g l]; omega
theorem sum_map_mul {α : Type} (c : Int) (f : α → Int) : ∀ l : List α, (l.map fun x => c * f x).sum = c * (l.map f).sum
  | [] => by simp
  | x :: l => by simp [sum_map_mul c f l, Int.mul_add]
theorem sum_nonneg : ∀ l : List Int, (∀ x ∈ l, 0 ≤ x) → 0 ≤ l.sum
  | [], _ => by simp
  | x :: l, h => by
    have := sum_nonneg l (fun y hy => h y (by simp [hy]))
    have := h x (by simp)
    simp; omega
theorem sum_le {α : Type} (f g : α → Int) : ∀ l : List α, (∀ x ∈ l, f x ≤ g x) → (l.map f).sum ≤ (l.map g).sum
  | [], _ => by simp
  | x :: l, h => by
    have := sum_le f g l (fun y hy => h y (by simp [hy]))
    have := h x (by simp)
    simp; omega
theorem sum_const {α : Type} (c : Int) : ∀ l : List α, (l.map fun _ => c).sum = l.length * c
  | [] => by simp
  | x :: l => by simp [sum_const c l, Int.add_mul]; omega
theorem le_sum : ∀ (l : List Int) (_ : ∀ x ∈ l, 0 ≤ x) (x : Int), x ∈ l → x ≤ l.sum
  | y :: l, h, x, hx => by
    have h1 := sum_nonneg l (fun y hy => h y (by simp [hy]))
    have h2 := h y (by simp)
    rcases List.mem_cons.1 hx with rfl | hx
    · simp; omega
    · have := le_sum l (fun y hy => h y (by simp [hy])) x hx
      simp; omega
theorem left_rests (t : Int) (ws : List Int) : ws.sum * (t - (ws.map (wh t ws.sum)).sum) = (ws.map (rs t ws.sum)).sum := by
  have h : ∀ w ∈ ws, ws.sum * wh t ws.sum w + rs t ws.sum w = t * w := fun w _ => Int.mul_ediv_add_emod _ _
  have h1 : (ws.map fun w => ws.sum * wh t ws.sum w + rs t ws.sum w) = ws.map fun w => t * w := List.map_congr_left h
  have h2 := congrArg List.sum h1
  rw [sum_map_add, sum_map_mul, sum_map_mul, List.map_id'] at h2
  rw [Int.mul_sub, Int.mul_comm ws.sum t]
  omega
theorem rs_bd (t all w : Int) (ha : 0 < all) : 0 ≤ rs t all w ∧ rs t all w < all := ⟨Int.emod_nonneg _ (by omega), Int.emod_lt_of_pos _ ha⟩
theorem left_nonneg (t : Int) (ws : List Int) (ha : 0 < ws.sum) : 0 ≤ t - (ws.map (wh t ws.sum)).sum := by
  have h := left_rests t ws
  have h2 : 0 ≤ (ws.map (rs t ws.sum)).sum := sum_nonneg _ (by
    intro x hx; obtain ⟨w, _, rfl⟩ := List.mem_map.1 hx; exact (rs_bd t ws.sum w ha).1)
  rcases Int.lt_or_le (t - (ws.map (wh t ws.sum)).sum) 0 with k | k
  · have := Int.mul_neg_of_pos_of_neg ha k; omega
  · exact k
theorem left_int (t : Int) (ws : List Int) (ha : 0 < ws.sum) : (leftN t ws.sum ws : Int) = t - (ws.map (wh t ws.sum)).sum := by
  have := left_nonneg t ws ha
  unfold leftN; omega
theorem left_lt (t : Int) (ws : List Int) (ha : 0 < ws.sum) : leftN t ws.sum ws < ws.length := by
  have hl := left_int t ws ha
  have h := left_rests t ws
  rw [← hl] at h
  have h2 : (ws.map (rs t ws.sum)).sum ≤ (ws.map (fun _ => ws.sum - 1)).sum := sum_le _ _ _ (fun w _ => by have := rs_bd t ws.sum w ha; omega)
  rw [sum_const] at h2
  rcases Nat.lt_or_ge (leftN t ws.sum ws) ws.length with k | k
  · exact k
  · exfalso
    have hn : 0 < ws.length := by
      cases ws with
      | nil => simp at ha
      | cons _ _ => simp
    have h3 : ws.sum * (ws.length : Int) ≤ ws.sum * (leftN t ws.sum ws : Int) := Int.mul_le_mul_of_nonneg_left (by omega) (by omega)
    rw [Int.mul_sub, Int.mul_one, Int.mul_comm (ws.length : Int)] at h2
    omega
theorem getD_zipIdx_map {α : Type} (f : Int × Nat → α) (d : α) (ws : List Int) (i : Nat) (h : i < ws.length) : (ws.zipIdx.map f).getD i d = f (ws.getD i 0, i) := by
  simp [List.getD_eq_getElem?_getD, h]
theorem shareL_len (t : Int) (ws : List Int) : (shareL t ws).length = ws.length := by simp [shareL]
theorem shareL_get (t : Int) (ws : List Int) (i : Nat) (h : i < ws.length) : (shareL t ws).getD i 0 = wh t ws.sum (ws.getD i 0) + if chosen (restsL t ws.sum ws) (leftN t ws.sum ws) i then 1 else 0 := by
  unfold shareL
  rw [getD_zipIdx_map _ _ _ _ h]
theorem sum_marks (f : Nat → Bool) (n : Nat) : ((List.range n).map fun i => if f i then (1 : Int) else 0).sum = ((List.range n).filter f).length := by
  induction n with
  | zero => simp
  | succ n ih =>
    rw [List.range_succ, List.map_append, List.sum_append_int, ih, List.filter_append, List.length_append]
    cases h : f n <;> simp [h]
theorem chosen_count (t all : Int) (ws : List Int) (k : Nat) (hk : k ≤ ws.length) : ((List.range ws.length).filter (chosen (restsL t all ws) k)).length = k := by
  have hS := rests_sorted t all ws
  have hl := sort_len t all ws
  have hp : (((sortL (restsL t all ws)).take k).map (·.2)).Perm ((List.range ws.length).filter (chosen (restsL t all ws) k)) := by
    refine (List.perm_ext_iff_of_nodup ?_ (List.nodup_range.filter _)).2 ?_
    · have h1 : ((restsL t all ws).map (·.2)).Nodup := by unfold restsL; rw [List.zipIdx_map_snd]; exact List.nodup_range'
      have h2 : ((sortL (restsL t all ws)).map (·.2)).Nodup := ((sortL_perm _).map _).symm.nodup h1
      rw [List.map_take]; exact h2.sublist (List.take_sublist _ _)
    · intro i
      rw [List.mem_filter, List.mem_range, List.mem_map]
      constructor
      · rintro ⟨x, hx, rfl⟩
        refine ⟨(mem_rests (List.mem_of_mem_take hx)).1, ?_⟩
        unfold chosen; rw [List.any_eq_true]; exact ⟨x, hx, by simp⟩
      · rintro ⟨_, hc⟩
        unfold chosen at hc; rw [List.any_eq_true] at hc
        obtain ⟨x, hx, he⟩ := hc
        exact ⟨x, hx, by simpa using he⟩
  rw [← hp.length_eq, List.length_map, List.length_take, hl]; omega
theorem shareL_sum (t : Int) (ws : List Int) (ha : 0 < ws.sum) : (shareL t ws).sum = t := by
  have e : shareL t ws = (List.range ws.length).map fun i => wh t ws.sum (ws.getD i 0) + if chosen (restsL t ws.sum ws) (leftN t ws.sum ws) i then 1 else 0 := by
    refine List.ext_getElem (by simp [shareL]) fun i h1 h2 => ?_
    simp [shareL, List.getD_eq_getElem?_getD]
    rw [List.getElem?_eq_getElem (by simpa using h2)]; rfl
  rw [e, sum_map_add, sum_marks, chosen_count _ _ _ _ (by have := left_lt t ws ha; omega), left_int t ws ha]
  have : (List.range ws.length).map (fun i => wh t ws.sum (ws.getD i 0)) = ws.map (wh t ws.sum) := by
    refine List.ext_getElem (by simp) fun i h1 h2 => ?_
    simp [List.getD_eq_getElem?_getD]
    rw [List.getElem?_eq_getElem (by simpa using h2)]; rfl
  rw [this]; omega
end Go.Tk
end
section
namespace Go.Tk
open Go.Sort
abbrev RA := Array (Int × Nat)
def Srt (d : RA) (a b : Nat) : Prop := ∀ i j, a ≤ i → i < j → j < b → lt2 d[i]! d[j]!
def Crs (d : RA) (a m b : Nat) : Prop := ∀ i j, a ≤ i → i < m → m ≤ j → j < b → d[i]!.2 < d[j]!.2
theorem lt2_le {x y : Int × Nat} (h : lt2 x y) : y.1 ≤ x.1 := by unfold lt2 at h; omega
theorem lt2_idx {x y : Int × Nat} (h : y.1 ≤ x.1) (hi : x.2 < y.2) : lt2 x y := by unfold lt2; omega
theorem Srt.le {d : RA} {a b : Nat} (h : Srt d a b) {i j : Nat} (ha : a ≤ i) (hij : i ≤ j) (hj : j < b) : d[j]!.1 ≤ d[i]!.1 := by
  rcases Nat.lt_or_ge i j with k | k
  · exact lt2_le (h i j ha k hj)
  · have : i = j := by omega
    subst this; exact Int.le_refl _
theorem Srt.one (d : RA) (a b : Nat) (h : b ≤ a + 1) : Srt d a b := fun i j _ _ _ => by omega
theorem perm_mem {d d' : RA} {a b : Nat} (hb : b ≤ d.size) (h : PermIn a b d d') {i : Nat} (ha : a ≤ i) (hi : i < b) : ∃ k, a ≤ k ∧ k < b ∧ d'[i]! = d[k]! :=
  permIn_all d d' a b (fun x => ∃ k, a ≤ k ∧ k < b ∧ x = d[k]!) hb h (fun k h1 h2 => ⟨k, h1, h2, rfl⟩) i ha hi
def swapR (d : RA) (a b : Nat) : Nat → RA
  | 0 => d
  | n + 1 => swp (swapR d a b n) (a + n) (b + n)
theorem size_swapR (d : RA) (a b : Nat) : ∀ n, (swapR d a b n).size = d.size
  | 0 => rfl
  | n + 1 => by unfold swapR; rw [size_swp]; exact size_swapR d a b n
theorem swapR_get (d : RA) (a b : Nat) : ∀ n, a + n ≤ b → b + n ≤ d.size → ∀ t, (swapR d a b n)[t]! = if a ≤ t ∧ t < a + n then d[b + (t - a)]! else if b ≤ t ∧ t < b + n then d[a + (t - b)]! else d[t]!
  | 0, _, _, t => by
    rw [if_neg (by omega), if_neg (by omega)]; rfl
  | n + 1, h, hb, t => by
    have ih := swapR_get d a b n (by omega) (by omega)
    have hs := size_swapR d a b n
    unfold swapR
    rcases Decidable.em (t = a + n) with e | e
    · subst e
      rw [swp_left _ _ _ (by omega) (by omega), ih, if_neg (by omega), if_neg (by omega), if_pos (by omega)]
      congr 1; omega
    · rcases Decidable.em (t = b + n) with e2 | e2
      · subst e2
        rw [swp_right _ _ _ (by omega), ih, if_neg (by omega), if_neg (by omega), if_neg (by omega), if_pos (by omega)]
        congr 1; omega
      · rw [swp_other _ _ _ _ e e2, ih]
        rcases Decidable.em (a ≤ t ∧ t < a + n) with k | k
        · rw [if_pos k, if_pos (by omega)]
        · rcases Decidable.em (b ≤ t ∧ t < b + n) with k2 | k2
          · rw [if_neg k, if_pos k2, if_neg (by omega), if_pos (by omega)]
          · rw [if_neg k, if_neg k2, if_neg (by omega), if_neg (by omega)]
theorem swapR_perm (d : RA) (a b A B : Nat) (hA : A ≤ a) (hab : a ≤ b) (hB : B ≤ d.size) : ∀ n, b + n ≤ B → PermIn A B d (swapR d a b n)
  | 0, _ => permIn_refl d A B
  | n + 1, h => by
    unfold swapR
    exact permIn_trans _ _ _ _ _ (swapR_perm d a b A B hA hab hB n (by omega)) (swp_permIn _ A B (a + n) (b + n) (by omega) (by omega) (by omega) (by omega) (by rw [size_swapR]; exact hB))
structure IsRot (d d' : RA) (a m b : Nat) : Prop where
  lo : ∀ t, t < a → d'[t]! = d[t]!
  one : ∀ t, t + m < b → d'[a + t]! = d[m + t]!
  two : ∀ t, a + t < m → d'[a + (b - m) + t]! = d[a + t]!
  hi : ∀ t, b ≤ t → d'[t]! = d[t]!
theorem IsRot.none {d : RA} {a m b : Nat} (h : a = m ∨ m = b) : IsRot d d a m b where
  lo := fun _ _ => rfl
  one := fun t ht => by
    rcases h with h | h
    · subst h; rfl
    · omega
  two := fun t ht => by
    rcases h with h | h
    · omega
    · subst h; rw [Nat.sub_self, Nat.add_zero]
  hi := fun _ _ => rfl
theorem IsRot.eq {d : RA} {a m b : Nat} (ham : a ≤ m) (hmb : m ≤ b) (h : m - a = b - m) (hb : b ≤ d.size) : IsRot d (swapR d a m (m - a)) a m b := by
  have g := swapR_get d a m (m - a) (by omega) (by omega)
  refine ⟨fun t ht => ?_, fun t ht => ?_, fun t ht => ?_, fun t ht => ?_⟩
  · rw [g, if_neg (by omega), if_neg (by omega)]
  · rw [g, if_pos (by omega)]; congr 1; omega
  · rw [g, if_neg (by omega), if_pos (by omega)]; congr 1; omega
  · rw [g, if_neg (by omega), if_neg (by omega)]
theorem IsRot.left {d d' : RA} {a m b : Nat} (ham : a ≤ m) (hmb : m ≤ b) (h : b - m < m - a) (hb : b ≤ d.size) (hr : IsRot (swapR d a m (b - m)) d' (a + (b - m)) m b) : IsRot d d' a m b := by
  have g := swapR_get d a m (b - m) (by omega) (by omega)
  obtain ⟨lo, one, two, hi⟩ := hr
  refine ⟨fun t ht => ?_, fun t ht => ?_, fun t ht => ?_, fun t ht => ?_⟩
  · rw [lo t (by omega), g, if_neg (by omega), if_neg (by omega)]
  · rw [lo (a + t) (by omega), g, if_pos (by omega)]; congr 1; omega
  · rcases Nat.lt_or_ge t (b - m) with k | k
    · rw [one t (by omega), g, if_neg (by omega), if_pos (by omega)]; congr 1; omega
    · have := two (t - (b - m)) (by omega)
      rw [show a + (b - m) + (b - m) + (t - (b - m)) = a + (b - m) + t by omega] at this
      rw [this, g, if_neg (by omega), if_neg (by omega)]; congr 1; omega
  · rw [hi t ht, g, if_neg (by omega), if_neg (by omega)]
theorem IsRot.right {d d' : RA} {a m b : Nat} (ham : a ≤ m) (hmb : m ≤ b) (h : m - a < b - m) (hb : b ≤ d.size) (hr : IsRot (swapR d a (b - (m - a)) (m - a)) d' a m (b - (m - a))) : IsRot d d' a m b := by
  have g := swapR_get d a (b - (m - a)) (m - a) (by omega) (by omega)
  obtain ⟨lo, one, two, hi⟩ := hr
  refine ⟨fun t ht => ?_, fun t ht => ?_, fun t ht => ?_, fun t ht => ?_⟩
  · rw [lo t (by omega), g, if_neg (by omega), if_neg (by omega)]
  · rcases Nat.lt_or_ge (t + m) (b - (m - a)) with k | k
    · rw [one t (by omega), g, if_neg (by omega), if_neg (by omega)]
    · have := two (t + m - (b - (m - a))) (by omega)
      rw [show a + (b - (m - a) - m) + (t + m - (b - (m - a))) = a + t by omega] at this
      rw [this, g, if_pos (by omega)]; congr 1; omega
  · rw [hi _ (by omega), g, if_neg (by omega), if_pos (by omega)]; congr 1; omega
  · rw [hi t (by omega), g, if_neg (by omega), if_neg (by omega)]
def shiftU (d : RA) (a : Nat) : Nat → RA
  | 0 => d
  | n + 1 => swp (shiftU d a n) (a + n) (a + n + 1)
theorem size_shiftU (d : RA) (a : Nat) : ∀ n, (shiftU d a n).size = d.size
  | 0 => rfl
  | n + 1 => by unfold shiftU; rw [size_swp]; exact size_shiftU d a n
theorem shiftU_get (d : RA) (a : Nat) : ∀ n, a + n < d.size → ∀ t, (shiftU d a n)[t]! = if a ≤ t ∧ t < a + n then d[t + 1]! else if t = a + n then d[a]! else d[t]!
  | 0, _, t => by
    rw [if_neg (by omega)]
    rcases Decidable.em (t = a + 0) with e | e
    · rw [if_pos e, e]; rfl
    · rw [if_neg e]; rfl
  | n + 1, h, t => by
    have ih := shiftU_get d a n (by omega)
    have hs := size_shiftU d a n
    unfold shiftU
    rcases Decidable.em (t = a + n) with e | e
    · subst e
      rw [swp_left _ _ _ (by omega) (by omega), ih, if_neg (by omega), if_neg (by omega), if_pos (by omega)]
    · rcases Decidable.em (t = a + n + 1) with e2 | e2
      · subst e2
        rw [swp_right _ _ _ (by omega), ih, if_neg (by omega), if_pos rfl, if_neg (by omega), if_pos (by omega)]
      · rw [swp_other _ _ _ _ e e2, ih]
        rcases Decidable.em (a ≤ t ∧ t < a + n) with k | k
        · rw [if_pos k, if_pos (by omega)]
        · rw [if_neg k, if_neg e, if_neg (by omega), if_neg (by omega)]
theorem shiftU_perm (d : RA) (a A B : Nat) (hA : A ≤ a) (hB : B ≤ d.size) : ∀ n, a + n < B → PermIn A B d (shiftU d a n)
  | 0, _ => permIn_refl d A B
  | n + 1, h => by
    unfold shiftU
    exact permIn_trans _ _ _ _ _ (shiftU_perm d a A B hA hB n (by omega)) (swp_permIn _ A B (a + n) (a + n + 1) (by omega) (by omega) (by omega) (by omega) (by rw [size_shiftU]; exact hB))
def shiftD (d : RA) (m : Nat) : Nat → RA
  | 0 => d
  | n + 1 => swp (shiftD d m n) (m - n) (m - n - 1)
theorem size_shiftD (d : RA) (m : Nat) : ∀ n, (shiftD d m n).size = d.size
  | 0 => rfl
  | n + 1 => by unfold shiftD; rw [size_swp]; exact size_shiftD d m n
theorem shiftD_get (d : RA) (m : Nat) (hm : m < d.size) : ∀ n, n ≤ m → ∀ t, (shiftD d m n)[t]! = if m < t + n ∧ t ≤ m then d[t - 1]! else if t + n = m then d[m]! else d[t]!
  | 0, _, t => by
    rw [if_neg (by omega)]
    rcases Decidable.em (t + 0 = m) with e | e
    · rw [if_pos e, ← e]; rfl
    · rw [if_neg e]; rfl
  | n + 1, h, t => by
    have ih := shiftD_get d m hm n (by omega)
    have hs := size_shiftD d m n
    unfold shiftD
    rcases Decidable.em (t = m - n) with e | e
    · subst e
      rw [swp_left _ _ _ (by omega) (by omega), ih, if_neg (by omega), if_neg (by omega), if_pos (by omega)]
    · rcases Decidable.em (t = m - n - 1) with e2 | e2
      · subst e2
        rw [swp_right _ _ _ (by omega), ih, if_neg (by omega), if_pos (by omega), if_neg (by omega), if_pos (by omega)]
      · rw [swp_other _ _ _ _ e e2, ih]
        rcases Decidable.em (m < t + n ∧ t ≤ m) with k | k
        · rw [if_pos k, if_pos (by omega)]
        · rw [if_neg k, if_neg (by omega), if_neg (by omega), if_neg (by omega)]
theorem shiftD_perm (d : RA) (m A B : Nat) (hm : m < B) (hB : B ≤ d.size) : ∀ n, A + n ≤ m → PermIn A B d (shiftD d m n)
  | 0, _ => permIn_refl d A B
  | n + 1, h => by
    unfold shiftD
    exact permIn_trans _ _ _ _ _ (shiftD_perm d m A B hm hB n (by omega)) (swp_permIn _ A B (m - n) (m - n - 1) (by omega) (by omega) (by omega) (by omega) (by rw [size_shiftD]; exact hB))
theorem up_sorted {d : RA} {a b i : Nat} (hR : Srt d (a + 1) b) (hC : Crs d a (a + 1) b) (hi : a + 1 ≤ i) (hib : i ≤ b) (hb : b ≤ d.size)
    (h1 : ∀ h, a + 1 ≤ h → h < i → d[a]!.1 < d[h]!.1) (h2 : ∀ h, i ≤ h → h < b → ¬ d[a]!.1 < d[h]!.1) : Srt (shiftU d a (i - 1 - a)) a b := by
  have g := shiftU_get d a (i - 1 - a) (by omega)
  intro p q hp hpq hq
  rw [g p, g q]
  rcases Nat.lt_trichotomy p (i - 1) with k | k | k
  · rw [if_pos (by omega)]
    rcases Nat.lt_trichotomy q (i - 1) with l | l | l
    · rw [if_pos (by omega)]; exact hR _ _ (by omega) (by omega) (by omega)
    · rw [if_neg (by omega), if_pos (by omega)]; exact .inl (h1 _ (by omega) (by omega))
    · rw [if_neg (by omega), if_neg (by omega)]; exact hR _ _ (by omega) (by omega) (by omega)
  · rw [if_neg (by omega), if_pos (by omega), if_neg (by omega), if_neg (by omega)]
    exact lt2_idx (by have := h2 q (by omega) hq; omega) (hC a q (by omega) (by omega) (by omega) hq)
  · rw [if_neg (by omega), if_neg (by omega), if_neg (by omega), if_neg (by omega)]; exact hR _ _ (by omega) hpq hq
theorem down_sorted {d : RA} {a m i : Nat} (hL : Srt d a m) (hC : Crs d a m (m + 1)) (hi : a ≤ i) (him : i ≤ m) (hb : m < d.size)
    (h1 : ∀ h, a ≤ h → h < i → ¬ d[h]!.1 < d[m]!.1) (h2 : ∀ h, i ≤ h → h < m → d[h]!.1 < d[m]!.1) : Srt (shiftD d m (m - i)) a (m + 1) := by
  have g := shiftD_get d m hb (m - i) (by omega)
  intro p q hp hpq hq
  rw [g p, g q]
  rcases Nat.lt_trichotomy p i with k | k | k
  · rcases Nat.lt_trichotomy q i with l | l | l
    · rw [if_neg (by omega), if_neg (by omega), if_neg (by omega), if_neg (by omega)]; exact hL _ _ (by omega) (by omega) (by omega)
    · rw [if_neg (by omega), if_neg (by omega), if_neg (by omega), if_pos (by omega)]
      exact lt2_idx (by have := h1 p hp k; omega) (hC p m hp (by omega) (by omega) (by omega))
    · rw [if_neg (by omega), if_neg (by omega), if_pos (by omega)]; exact hL _ _ (by omega) (by omega) (by omega)
  · rw [if_neg (by omega), if_pos (by omega), if_pos (by omega)]
    exact .inl (h2 _ (by omega) (by omega))
  · rw [if_pos (by omega), if_pos (by omega)]; exact hL _ _ (by omega) (by omega) (by omega)
structure Cut (d : RA) (mid m s s0 r0 : Nat) : Prop where
  lo : s0 ≤ s
  hi : s ≤ r0
  no : ∀ c, s0 ≤ c → c < s → ¬ d[c]!.1 < d[mid + m - 1 - c]!.1
  yes : ∀ c, s ≤ c → c < r0 → d[c]!.1 < d[mid + m - 1 - c]!.1
structure Mid (a m b mid s0 r0 : Nat) : Prop where
  m1 : 2 * mid ≤ a + b
  m2 : a + b ≤ 2 * mid + 1
  at' : (mid < m ∧ s0 = mid + m - b ∧ r0 = mid) ∨ (m ≤ mid ∧ s0 = a ∧ r0 = m)
theorem cut_at {a m b mid s0 r0 : Nat} (ham : a < m) (hmb : m < b) (h : Mid a m b mid s0 r0) :
    a ≤ s0 ∧ s0 ≤ r0 ∧ r0 ≤ m ∧ r0 ≤ mid ∧ (∀ c, s0 ≤ c → c < r0 → m ≤ mid + m - 1 - c ∧ mid + m - 1 - c < b) ∧ mid + m - s0 ≤ b ∧ (s0 = a ∨ mid + m - s0 = b) ∧ (r0 = m ∨ mid + m - r0 = m) := by
  obtain ⟨m1, m2, h0⟩ := h
  rcases h0 with ⟨h1, rfl, rfl⟩ | ⟨h1, rfl, rfl⟩
  · refine ⟨by omega, by omega, by omega, by omega, fun c _ _ => by omega, by omega, by omega, by omega⟩
  · refine ⟨by omega, by omega, by omega, by omega, fun c _ _ => by omega, by omega, by omega, by omega⟩
theorem cut_parts {d d1 : RA} {a m b mid s s0 r0 e : Nat} (ham : a < m) (hmb : m < b) (hL : Srt d a m) (hR : Srt d m b) (hC : Crs d a m b)
    (h0 : Mid a m b mid s0 r0) (hc : Cut d mid m s s0 r0) (he : e = mid + m - s) (hr : IsRot d d1 s m e) :
    Srt d1 a s ∧ Srt d1 s mid ∧ Crs d1 a s mid ∧ Srt d1 mid e ∧ Srt d1 e b ∧ Crs d1 mid e b ∧
      (∀ i j, a ≤ i → i < mid → mid ≤ j → j < b → lt2 d1[i]! d1[j]!) := by
  obtain ⟨c1, c2, c3, c4, c5, c6, c7, c8⟩ := cut_at ham hmb h0
  obtain ⟨lo, hi, no, yes⟩ := hc
  obtain ⟨hm1, hm2, _⟩ := h0
  obtain ⟨q1, q2, q3, q4⟩ := hr
  have A : ∀ t, a ≤ t → t < s → d1[t]! = d[t]! := fun t _ h => q1 t h
  have B : ∀ t, s ≤ t → t < mid → d1[t]! = d[t - s + m]! := fun t h h' => by
    have := q2 (t - s) (by omega)
    rw [show s + (t - s) = t by omega, show m + (t - s) = t - s + m by omega] at this; exact this
  have C : ∀ t, mid ≤ t → t < e → d1[t]! = d[t - mid + s]! := fun t h h' => by
    have := q3 (t - mid) (by omega)
    rw [show s + (e - m) + (t - mid) = t by omega, show s + (t - mid) = t - mid + s by omega] at this; exact this
  have D : ∀ t, e ≤ t → t < b → d1[t]! = d[t]! := fun t h _ => q4 t h
  clear q1 q2 q3 q4
  have hes : s ≤ mid := by omega
  have hem : mid ≤ e := by omega
  have heb : e ≤ b := by omega
  refine ⟨fun i j hi hij hj => ?_, fun i j hi hij hj => ?_, fun i j hi his hj hj' => ?_, fun i j hi hij hj => ?_, fun i j hi hij hj => ?_, fun i j hi his hj hj' => ?_, fun i j hi his hj hj' => ?_⟩
  · rw [A i hi (by omega), A j (by omega) hj]; exact hL i j hi hij (by omega)
  · rw [B i hi (by omega), B j (by omega) hj]; exact hR _ _ (by omega) (by omega) (by omega)
  · rw [A i hi his, B j hj hj']; exact hC _ _ hi (by omega) (by omega) (by omega)
  · rw [C i hi (by omega), C j (by omega) hj]; exact hL _ _ (by omega) (by omega) (by omega)
  · rw [D i hi (by omega), D j (by omega) hj]; exact hR _ _ (by omega) (by omega) (by omega)
  · rw [C i hi his, D j hj hj']; exact hC _ _ (by omega) (by omega) (by omega) (by omega)
  · rcases Nat.lt_or_ge i s with k | k
    · rw [A i hi k]
      rcases Nat.lt_or_ge j e with l | l
      · rw [C j hj l]; exact hL _ _ hi (by omega) (by omega)
      · rw [D j l hj']
        have n1 := no (s - 1) (by omega) (by omega)
        rw [show mid + m - 1 - (s - 1) = e by omega] at n1
        have n2 := hL.le (i := i) (j := s - 1) hi (by omega) (by omega)
        have n3 := hR.le (i := e) (j := j) (by omega) l hj'
        exact lt2_idx (by omega) (hC _ _ hi (by omega) (by omega) hj')
    · rw [B i k his]
      rcases Nat.lt_or_ge j e with l | l
      · rw [C j hj l]
        have n1 := yes s (by omega) (by omega)
        rw [show mid + m - 1 - s = e - 1 by omega] at n1
        have n2 := hR.le (i := i - s + m) (j := e - 1) (by omega) (by omega) (by omega)
        have n3 := hL.le (i := s) (j := j - mid + s) (by omega) (by omega) (by omega)
        exact .inl (by omega)
      · rw [D j l hj']; exact hR _ _ (by omega) (by omega) hj'
theorem join_sorted {d1 d2 d3 : RA} {a mid b : Nat} (hb : b ≤ d1.size) (hX : ∀ i j, a ≤ i → i < mid → mid ≤ j → j < b → lt2 d1[i]! d1[j]!)
    (p2 : PermIn a mid d1 d2) (s2 : Srt d2 a mid) (p3 : PermIn mid b d2 d3) (s3 : Srt d3 mid b) : Srt d3 a b := by
  intro i j hi hij hj
  rcases Nat.lt_or_ge j mid with k | k
  · rw [p3.2.1 i (.inl (by omega)), p3.2.1 j (.inl k)]; exact s2 i j hi hij k
  · rcases Nat.lt_or_ge i mid with l | l
    · rw [p3.2.1 i (.inl l)]
      obtain ⟨i', h1, h2, e1⟩ := perm_mem (by omega) p2 hi l
      obtain ⟨j', h3, h4, e2⟩ := perm_mem (by rw [p2.1]; exact hb) p3 k hj
      rw [e1, e2, p2.2.1 j' (.inr h3)]
      exact hX i' j' h1 h2 h3 h4
    · exact s3 i j l hij hj
end Go.Tk
end
