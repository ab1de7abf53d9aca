/- Tick7, Tick8, Tick9, SortRow, ProPlain, ProLaw. -/
import Derived.Test.YtdnaegleifhmgaaGreatM0e33dc4
import Derived.Test.YtdnaegleifhmgaaGreatM12d9068
import Derived.Shelf.SlSortCmp.KitK
set_option maxRecDepth 100000
set_option linter.unusedVariables false
set_option linter.unusedSimpArgs false
set_option linter.unusedSectionVars false
section
namespace Go.Proofs.YtdnaegleifhmgaaGreat
open Go.RowKit Go.Lib Go.Tk
theorem owns_slice {w : World} {base : Nat} {E : TypeId} {size n : Nat} {v : Value} {xs : List Value} (h : w.ownsRow base E size v n xs) : ∃ a c, v = .slice a n c ∧ Row w a xs ∧ (a = none → c = 0) ∧ (∀ x, a = some x → base ≤ x.block) := by
  obtain ⟨hl, h1 | ⟨g, cap, cur, hv, h2⟩⟩ := h
  · obtain ⟨rfl, rfl⟩ := h1
    have : xs = [] := List.length_eq_zero_iff.1 (by simpa using hl)
    subst this
    exact ⟨none, 0, rfl, Row.nil, fun _ => rfl, fun x h => by cases h⟩
  · subst hv
    obtain ⟨a, c, hv, hr, _⟩ := row_of_owns (w := w) (base := base) (e := E) (size := size) (v := .slice (some ⟨g, 0, none⟩) n cap) ⟨hl, .inr ⟨g, cap, cur, rfl, h2⟩⟩
    cases hv
    exact ⟨_, _, rfl, hr, (fun h => by cases h), fun x h => by cases h; exact h2.1⟩
def giveV (v p : Int) : Int := if v < 0 ∨ p < 0 then 0 else v - min v p
def giveK (v p : Int) : Int := if v < 0 ∨ p < 0 then 0 else min v p
set_option maxHeartbeats 1000000 in
theorem give_any (v p : Int) (w : World) (hv : v ≤ 9223372036854775807) (hp : p ≤ 9223372036854775807) :
    Calls Tryz.prog 126 #[.int .i64 v, .int .i64 p] w fun e w' => e = .returned (.tuple #[.int .i64 (giveV v p), .int .i64 (giveK v p)]) ∧ w = w' := by
  by_cases h1 : v < 0
  · have F := hid (show (giveV v p, giveK v p) = (0, 0) by unfold giveV giveK; rw [if_pos (.inl h1), if_pos (.inl h1)])
    have d1 : decide (v < 0) = true := decide_eq_true h1
    go_enter Tryz.func126, Tryz.ntmps126
    go_wp2
    go_ret2
    exact ⟨ret_i2 F.out.symm, rfl⟩
  · have d1 : decide (v < 0) = false := decide_eq_false h1
    by_cases h2 : p < 0
    · have F := hid (show (giveV v p, giveK v p) = (0, 0) by unfold giveV giveK; rw [if_pos (.inr h2), if_pos (.inr h2)])
      have d2 : decide (p < 0) = true := decide_eq_true h2
      go_enter Tryz.func126, Tryz.ntmps126
      go_wp2
      go_ret2
      exact ⟨ret_i2 F.out.symm, rfl⟩
    · have d2 : decide (p < 0) = false := decide_eq_false h2
      have F := hid (show (giveV v p, giveK v p) = (v - min v p, min v p) by unfold giveV giveK; rw [if_neg (by omega), if_neg (by omega)])
      have q0 : 0 ≤ v := by omega
      have q1 : 0 ≤ p := by omega
      have q2 : 0 ≤ v - min v p := by omega
      have q3 : 0 ≤ min v p := by omega
      have q4 : min v p ≤ v := by omega
      clear h1 h2
      go_enter Tryz.func126, Tryz.ntmps126
      go_wp2
      all_goals
        go_ret2
        exact ⟨ret_i2 (by rw [F.out, Prod.mk.injEq]; omega), rfl⟩
end Go.Proofs.YtdnaegleifhmgaaGreat
end
section
namespace Go.Proofs.YtdnaegleifhmgaaGreat
open Go.RowKit Go.Lib Go.Tk
structure OwnedS (w : World) (base : Nat) (s : SaleV) (A : SaleA) : Prop where
  legs : w.ownsRow base 43 3 (.slice A.la s.legs.length A.lc) s.legs.length (cellsL encLeg s.legs)
  taxes : w.ownsRow base 126 2 (.slice A.ta s.taxes.length A.tc) s.taxes.length (cellsL encTax s.taxes)
  apart : Apart (.slice A.la s.legs.length A.lc) (.slice A.ta s.taxes.length A.tc)
theorem OwnedS.at {w : World} {base : Nat} {s : SaleV} {A : SaleA} (h : OwnedS w base s A) : SaleAt w s A := by
  obtain ⟨a, c, e, hr, hn, _⟩ := owns_slice h.legs
  cases e
  obtain ⟨a, c, e, hr2, hn2, _⟩ := owns_slice h.taxes
  cases e
  exact ⟨hr, hr2, hn, hn2⟩
theorem OwnedS.kept {w w' : World} {base : Nat} {s : SaleV} {A : SaleA} (h : OwnedS w base s A) (hb : Below w.heap.size w w') : OwnedS w' base s A :=
  ⟨ownsRow_below h.legs hb, ownsRow_below h.taxes hb, h.apart⟩
end Go.Proofs.YtdnaegleifhmgaaGreat
end
section
namespace Go.Proofs.YtdnaegleifhmgaaGreat
open Go.RowKit Go.Lib Go.Tk
end Go.Proofs.YtdnaegleifhmgaaGreat
end
section
namespace Go.Tk
open Go.RowKit Go.Lib Go.Sort Go.Proofs
variable {α : Type} [Inhabited α] {enc : α → List Value} {k : Nat}
theorem flat_get (hk : ∀ x, (enc x).length = k) (d : Array α) (t : Nat) (h : t < d.size * k) : ((d.toList.map enc).flatten).getD t undef = (flatK enc k d)[t]! := by
  have k0 : 0 < k := by
    rcases Nat.eq_zero_or_pos k with e | e
    · subst e; simp at h
    · exact e
  rw [get_flatK _ _ _ _ h]
  have hq : t / k < d.size := (Nat.div_lt_iff_lt_mul k0).2 h
  have e1 : ∀ (l : List α) (t : Nat), t < l.length * k → ((l.map enc).flatten)[t]? = ((l[t / k]?).map fun x => (enc x).getD (t % k) undef) := by
    intro l
    induction l with
    | nil => intro t h; simp at h
    | cons x l ih =>
      intro t h
      rw [List.map_cons, List.flatten_cons]
      by_cases ht : t < k
      · rw [List.getElem?_append_left (by rw [hk]; exact ht), Nat.div_eq_of_lt ht, Nat.mod_eq_of_lt ht]
        simp [List.getD_eq_getElem?_getD, hk, ht]
      · have h2 : t < l.length * k + k := by rw [List.length_cons, Nat.add_mul, Nat.one_mul] at h; exact h
        have e1 : t / k = (t - k) / k + 1 := Nat.div_eq_sub_div k0 (by omega)
        have e2 : t % k = (t - k) % k := Nat.mod_eq_sub_mod (by omega)
        rw [List.getElem?_append_right (by rw [hk]; omega), hk, ih (t - k) (by omega), e1, e2]
        simp
  rw [List.getD_eq_getElem?_getD, e1 d.toList t (by simpa using h)]
  have hm := Nat.mod_lt t k0
  have hz : d[t / k]! = d[t / k] := getElem!_pos d _ hq
  rw [hz]
  have : d.toList[t / k]? = some d[t / k] := by simp [hq]
  rw [this]
  simp only [Option.map_some, Option.getD_some]
  rw [getElem!_pos _ _ (by rw [hk]; exact hm)]
  simp [List.getD_eq_getElem?_getD, hk, hm]
omit [Inhabited α] in
theorem flat_len (hk : ∀ x, (enc x).length = k) (d : Array α) : ((d.toList.map enc).flatten).length = d.size * k := by
  have : ∀ l : List α, ((l.map enc).flatten).length = l.length * k := by
    intro l
    induction l with
    | nil => simp
    | cons x l ih => rw [List.map_cons, List.flatten_cons, List.length_append, ih, hk, List.length_cons, Nat.add_mul]; omega
  simpa using this d.toList
theorem holdsK_of_owns {w : World} {base : Nat} {e : TypeId} {g n cap : Nat} (hk : ∀ x, (enc x).length = k) (d : Array α) (hn : d.size = n) (h : w.ownsRow base e k (.slice (some ⟨g, 0, none⟩) n cap) n ((d.toList.map enc).flatten)) : HoldsK enc k w g 0 d := by
  subst hn
  intro j hj
  have hj' : j < d.size * k := by simpa using hj
  refine ⟨?_, h.frozenAt (0 + j)⟩
  rw [Nat.zero_add, h.cellAt j hj', ← flat_get hk d j hj', List.getD_eq_getElem?_getD]
  have : j < ((d.toList.map enc).flatten).length := by rw [flat_len hk]; exact hj'
  rw [List.getElem?_eq_getElem this]; rfl
theorem row_of_holdsK {w : World} {g : Nat} (hk : ∀ x, (enc x).length = k) (d : Array α) (h : HoldsK enc k w g 0 d) : Row w (some ⟨g, 0, none⟩) ((d.toList.map enc).flatten) := by
  intro i hi
  rw [flat_len hk] at hi
  refine ⟨g, 0, rfl, ?_⟩
  rw [(h i (by simpa using hi)).1, flat_get hk d i hi]; rfl
theorem swk_grown {w0 w : World} {g off : Nat} {d : Array α} (h : SWK enc k w0 g off d w) : w0.grownBy w (some g) := by
  obtain ⟨n, os, rfl⟩ := h
  refine ⟨rfl, rfl, rfl, ?_, fun j hj hne => ?_⟩
  · unfold sortWorldK; rw [size_grow, size_putRowK]; exact Nat.le_add_right _ _
  · unfold sortWorldK
    rw [heap_grow_old _ _ (by rw [size_putRowK]; exact hj)]
    unfold putRowK putRow mapBlock
    rw [Array.getElem?_modify, if_neg (by intro e; exact hne (by rw [e]))]
    rfl
end Go.Tk
end
section
namespace Go.Tk
def lt2 (a b : Int × Nat) : Prop := b.1 < a.1 ∨ (a.1 = b.1 ∧ a.2 < b.2)
instance (a b : Int × Nat) : Decidable (lt2 a b) := by unfold lt2; exact inferInstance
theorem lt2_irrefl (a : Int × Nat) : ¬ lt2 a a := by unfold lt2; omega
theorem lt2_trans {a b c : Int × Nat} (h : lt2 a b) (k : lt2 b c) : lt2 a c := by unfold lt2 at *; omega
theorem lt2_asymm {a b : Int × Nat} (h : lt2 a b) : ¬ lt2 b a := by unfold lt2 at *; omega
theorem lt2_total {a b : Int × Nat} (h : a ≠ b) : lt2 a b ∨ lt2 b a := by
  unfold lt2
  have : a.1 ≠ b.1 ∨ a.2 ≠ b.2 := by
    rcases Decidable.em (a.1 = b.1) with h1 | h1
    · right; intro h2; exact h (Prod.ext h1 h2)
    · exact .inl h1
  omega
theorem sorted_unique : ∀ {S T : List (Int × Nat)}, S.Pairwise lt2 → T.Pairwise lt2 → S.Perm T → S = T
  | [], T, _, _, h => (List.nil_perm.1 h).symm
  | x :: S, [], _, _, h => absurd h.length_eq (by simp)
  | x :: S, y :: T, hS, hT, h => by
    obtain ⟨s1, s2⟩ := List.pairwise_cons.1 hS
    obtain ⟨t1, t2⟩ := List.pairwise_cons.1 hT
    have hxy : x = y := by
      rcases Decidable.em (x = y) with e | e
      · exact e
      · have h1 : x ∈ y :: T := h.mem_iff.1 (List.mem_cons_self)
        have h2 : y ∈ x :: S := h.mem_iff.2 (List.mem_cons_self)
        rcases List.mem_cons.1 h1 with h1 | h1
        · exact absurd h1 e
        · rcases List.mem_cons.1 h2 with h2 | h2
          · exact absurd h2.symm e
          · exact absurd (s1 y h2) (lt2_asymm (t1 x h1))
    subst hxy
    rw [sorted_unique s2 t2 (List.Perm.cons_inv h)]
end Go.Tk
end
section
namespace Go.Tk
def wh (t all w : Int) : Int := t * w / all
def rs (t all w : Int) : Int := t * w % all
def restsL (t all : Int) (ws : List Int) : List (Int × Nat) := (ws.map (rs t all)).zipIdx
def leftN (t all : Int) (ws : List Int) : Nat := (t - (ws.map (wh t all)).sum).toNat
def le2 (a b : Int × Nat) : Bool := !decide (lt2 b a)
def sortL (l : List (Int × Nat)) : List (Int × Nat) := l.mergeSort le2
def chosen (l : List (Int × Nat)) (k : Nat) (i : Nat) : Bool := ((sortL l).take k).any fun x => x.2 == i
def shareL (t : Int) (ws : List Int) : List Int :=
  ws.zipIdx.map fun x => wh t ws.sum x.1 + if chosen (restsL t ws.sum ws) (leftN t ws.sum ws) x.2 then 1 else 0
theorem sortL_perm (l : List (Int × Nat)) : (sortL l).Perm l := List.mergeSort_perm l le2
theorem sortL_sorted {l : List (Int × Nat)} (h : l.Nodup) : (sortL l).Pairwise lt2 := by
  have h1 : (sortL l).Pairwise (fun a b => le2 a b = true) := by
    refine List.pairwise_mergeSort (le := le2) ?_ ?_ l
    · intro a b c h1 h2
      simp only [le2, Bool.not_eq_true', decide_eq_false_iff_not] at *
      unfold lt2 at *; omega
    · intro a b
      simp only [le2, Bool.or_eq_true, Bool.not_eq_true', decide_eq_false_iff_not]
      unfold lt2; omega
  have h2 : (sortL l).Nodup := (sortL_perm l).symm.nodup h
  refine (h1.and h2).imp ?_
  intro a b ⟨h3, h4⟩
  simp only [le2, Bool.not_eq_true', decide_eq_false_iff_not] at h3
  rcases lt2_total h4 with h | h
  · exact h
  · exact absurd h h3
theorem sortL_unique {l S : List (Int × Nat)} (hS : S.Pairwise lt2) (hp : S.Perm l) : S = sortL l := by
  have hn : S.Nodup := hS.imp (fun {a b} (h : lt2 a b) => by intro e; subst e; exact lt2_irrefl a h)
  exact sorted_unique hS (sortL_sorted (hp.nodup hn)) (hp.trans (sortL_perm l).symm)
theorem zipIdx_nodup (l : List Int) : l.zipIdx.Nodup := by
  have : (l.zipIdx.map (·.2)).Nodup := by rw [List.zipIdx_map_snd]; exact List.nodup_range'
  exact (List.pairwise_map.1 this).imp (fun {a b} h e => h (by rw [e]))
theorem rests_sorted (t all : Int) (ws : List Int) : (sortL (restsL t all ws)).Pairwise lt2 := sortL_sorted (zipIdx_nodup _)
theorem mem_rests {t all : Int} {ws : List Int} {x : Int × Nat} (h : x ∈ sortL (restsL t all ws)) : x.2 < ws.length ∧ x.1 = rs t all (ws.getD x.2 0) := by
  have h := (sortL_perm _).mem_iff.1 h
  unfold restsL at h
  obtain ⟨h1, h2⟩ := List.mk_mem_zipIdx_iff_getElem?.1 (show (x.1, x.2) ∈ _ from h) |> fun e => (⟨(List.getElem?_eq_some_iff.1 e).1, e⟩ : ∃ _ : x.2 < (ws.map (rs t all)).length, (ws.map (rs t all))[x.2]? = some x.1)
  have h3 : x.2 < ws.length := by simpa using h1
  refine ⟨h3, ?_⟩
  rw [List.getElem?_map, List.getElem?_eq_getElem h3] at h2
  simp only [Option.map_some, Option.some.injEq] at h2
  rw [← h2]; simp [List.getD_eq_getElem?_getD, h3]
theorem sort_len (t all : Int) (ws : List Int) : (sortL (restsL t all ws)).length = ws.length := by
  rw [(sortL_perm _).length_eq]; simp [restsL]
theorem chosen_iff {t all : Int} {ws : List Int} {k i : Nat} : chosen (restsL t all ws) k i = true ↔ (rs t all (ws.getD i 0), i) ∈ (sortL (restsL t all ws)).take k := by
  unfold chosen
  rw [List.any_eq_true]
  constructor
  · rintro ⟨x, hx, hxi⟩
    have hxi : x.2 = i := by simpa using hxi
    obtain ⟨_, h2⟩ := mem_rests (List.mem_of_mem_take hx)
    rw [hxi] at h2
    have : x = (rs t all (ws.getD i 0), i) := Prod.ext h2 hxi
    rw [← this]; exact hx
  · intro h; exact ⟨_, h, by simp⟩
theorem chosen_succ {t all : Int} {ws : List Int} {k i : Nat} (hk : k < ws.length) :
    chosen (restsL t all ws) (k + 1) i = (chosen (restsL t all ws) k i || ((sortL (restsL t all ws)).getD k (0, 0)).2 == i) := by
  unfold chosen
  have hk' : k < (sortL (restsL t all ws)).length := by rw [sort_len]; exact hk
  rw [List.take_succ_eq_append_getElem hk', List.any_append]
  simp [List.getD_eq_getElem?_getD, hk']
theorem not_chosen_at {t all : Int} {ws : List Int} {k : Nat} (hk : k < ws.length) : chosen (restsL t all ws) k ((sortL (restsL t all ws)).getD k (0, 0)).2 = false := by
  have hk' : k < (sortL (restsL t all ws)).length := by rw [sort_len]; exact hk
  have hm : (sortL (restsL t all ws))[k] ∈ sortL (restsL t all ws) := List.getElem_mem hk'
  obtain ⟨h1, h2⟩ := mem_rests hm
  have e : (sortL (restsL t all ws)).getD k (0, 0) = (sortL (restsL t all ws))[k] := by simp [List.getD_eq_getElem?_getD, hk']
  rw [e]
  cases hc : chosen (restsL t all ws) k (sortL (restsL t all ws))[k].2 with
  | false => rfl
  | true =>
    have := (chosen_iff).1 hc
    rw [← h2] at this
    have hsrt := rests_sorted t all ws
    rw [← List.take_append_drop k (sortL (restsL t all ws)), List.pairwise_append] at hsrt
    have hd : (sortL (restsL t all ws))[k] ∈ (sortL (restsL t all ws)).drop k := by
      rw [List.drop_eq_getElem_cons hk']; exact List.mem_cons_self
    exact absurd (hsrt.2.2 _ this _ hd) (lt2_irrefl _)
theorem sum_map_add {α : Type} (f g : α → Int) : ∀ l : List α, (l.map fun x => f x + g x).sum = (l.map f).sum + (l.map g).sum
  | [] => by simp
  | x :: l => by simp [sum_map_add f g l]; omega
theorem sum_map_mul {α : Type} (c : Int) (f : α → Int) : ∀ l : List α, (l.map fun x => c * f x).sum = c * (l.map f).sum
  | [] => by simp
  | x :: l => by simp [sum_map_mul c f l, Int.mul_add]
theorem sum_nonneg : ∀ l : List Int, (∀ x ∈ l, 0 ≤ x) → 0 ≤ l.sum
  | [], _ => by simp
  | x :: l, h => by
    have := sum_nonneg l (fun y hy => h y (by simp [hy]))
    have := h x (by simp)
    simp; omega
theorem sum_le {α : Type} (f g : α → Int) : ∀ l : List α, (∀ x ∈ l, f x ≤ g x) → (l.map f).sum ≤ (l.map g).sum
  | [], _ => by simp
  | x :: l, h => by
    have := sum_le f g l (fun y hy => h y (by simp [hy]))
    have := h x (by simp)
    simp; omega
theorem sum_const {α : Type} (c : Int) : ∀ l : List α, (l.map fun _ => c).sum = l.length * c
  | [] => by simp
  | x :: l => by simp [sum_const c l, Int.add_mul]; omega
theorem le_sum : ∀ (l : List Int) (_ : ∀ x ∈ l, 0 ≤ x) (x : Int), x ∈ l → x ≤ l.sum
  | y :: l, h, x, hx => by
    have h1 := sum_nonneg l (fun y hy => h y (by simp [hy]))
    have h2 := h y (by simp)
    rcases List.mem_cons.1 hx with rfl | hx
    · simp; omega
    · have := le_sum l (fun y hy => h y (by simp [hy])) x hx
      simp; omega
theorem left_rests (t : Int) (ws : List Int) : ws.sum * (t - (ws.map (wh t ws.sum)).sum) = (ws.map (rs t ws.sum)).sum := by
  have h : ∀ w ∈ ws, ws.sum * wh t ws.sum w + rs t ws.sum w = t * w := fun w _ => Int.mul_ediv_add_emod _ _
  have h1 : (ws.map fun w => ws.sum * wh t ws.sum w + rs t ws.sum w) = ws.map fun w => t * w := List.map_congr_left h
  have h2 := congrArg List.sum h1
  rw [sum_map_add, sum_map_mul, sum_map_mul, List.map_id'] at h2
  rw [Int.mul_sub, Int.mul_comm ws.sum t]
  omega
theorem rs_bd (t all w : Int) (ha : 0 < all) : 0 ≤ rs t all w ∧ rs t all w < all := ⟨Int.emod_nonneg _ (by omega), Int.emod_lt_of_pos _ ha⟩
theorem left_nonneg (t : Int) (ws : List Int) (ha : 0 < ws.sum) : 0 ≤ t - (ws.map (wh t ws.sum)).sum := by
  have h := left_rests t ws
  have h2 : 0 ≤ (ws.map (rs t ws.sum)).sum := sum_nonneg _ (by
    intro x hx; obtain ⟨w, _, rfl⟩ := List.mem_map.1 hx; exact (rs_bd t ws.sum w ha).1)
  rcases Int.lt_or_le (t - (ws.map (wh t ws.sum)).sum) 0 with k | k
  · have := Int.mul_neg_of_pos_of_neg ha k; omega
  · exact k
theorem left_int (t : Int) (ws : List Int) (ha : 0 < ws.sum) : (leftN t ws.sum ws : Int) = t - (ws.map (wh t ws.sum)).sum := by
  have := left_nonneg t ws ha
  unfold leftN; omega
theorem perm_sum {l m : List Int} (h : l.Perm m) : l.sum = m.sum := by
  induction h with
  | nil => rfl
  | cons x _ ih => simp [ih]
  | swap x y l => simp; omega
  | trans _ _ h1 h2 => rw [h1, h2]
theorem left_lt (t : Int) (ws : List Int) (ha : 0 < ws.sum) : leftN t ws.sum ws < ws.length := by
  have hl := left_int t ws ha
  have h := left_rests t ws
  rw [← hl] at h
  have h2 : (ws.map (rs t ws.sum)).sum ≤ (ws.map (fun _ => ws.sum - 1)).sum := sum_le _ _ _ (fun w _ => by have := rs_bd t ws.sum w ha; omega)
  rw [sum_const] at h2
  rcases Nat.lt_or_ge (leftN t ws.sum ws) ws.length with k | k
  · exact k
  · exfalso
    have hn : 0 < ws.length := by
      cases ws with
      | nil => simp at ha
      | cons _ _ => simp
    have h3 : ws.sum * (ws.length : Int) ≤ ws.sum * (leftN t ws.sum ws : Int) := Int.mul_le_mul_of_nonneg_left (by omega) (by omega)
    rw [Int.mul_sub, Int.mul_one, Int.mul_comm (ws.length : Int)] at h2
    omega
theorem getD_zipIdx_map {α : Type} (f : Int × Nat → α) (d : α) (ws : List Int) (i : Nat) (h : i < ws.length) : (ws.zipIdx.map f).getD i d = f (ws.getD i 0, i) := by
  simp [List.getD_eq_getElem?_getD, h]
theorem shareL_len (t : Int) (ws : List Int) : (shareL t ws).length = ws.length := by simp [shareL]
theorem shareL_get (t : Int) (ws : List Int) (i : Nat) (h : i < ws.length) : (shareL t ws).getD i 0 = wh t ws.sum (ws.getD i 0) + if chosen (restsL t ws.sum ws) (leftN t ws.sum ws) i then 1 else 0 := by
  unfold shareL
  rw [getD_zipIdx_map _ _ _ _ h]
theorem sum_marks (f : Nat → Bool) (n : Nat) : ((List.range n).map fun i => if f i then (1 : Int) else 0).sum = ((List.range n).filter f).length := by
  induction n with
  | zero => simp
  | succ n ih =>
    rw [List.range_succ, List.map_append, List.sum_append_int, ih, List.filter_append, List.length_append]
    cases h : f n <;> simp [h]
theorem chosen_count (t all : Int) (ws : List Int) (k : Nat) (hk : k ≤ ws.length) : ((List.range ws.length).filter (chosen (restsL t all ws) k)).length = k := by
  have hS := rests_sorted t all ws
  have hl := sort_len t all ws
  have hp : (((sortL (restsL t all ws)).take k).map (·.2)).Perm ((List.range ws.length).filter (chosen (restsL t all ws) k)) := by
    refine (List.perm_ext_iff_of_nodup ?_ (List.nodup_range.filter _)).2 ?_
    · have h1 : ((restsL t all ws).map (·.2)).Nodup := by unfold restsL; rw [List.zipIdx_map_snd]; exact List.nodup_range'
      have h2 : ((sortL (restsL t all ws)).map (·.2)).Nodup := ((sortL_perm _).map _).symm.nodup h1
      rw [List.map_take]; exact h2.sublist (List.take_sublist _ _)
    · intro i
      rw [List.mem_filter, List.mem_range, List.mem_map]
      constructor
      · rintro ⟨x, hx, rfl⟩
        refine ⟨(mem_rests (List.mem_of_mem_take hx)).1, ?_⟩
        unfold chosen; rw [List.any_eq_true]; exact ⟨x, hx, by simp⟩
      · rintro ⟨_, hc⟩
        unfold chosen at hc; rw [List.any_eq_true] at hc
        obtain ⟨x, hx, he⟩ := hc
        exact ⟨x, hx, by simpa using he⟩
  rw [← hp.length_eq, List.length_map, List.length_take, hl]; omega
theorem shareL_sum (t : Int) (ws : List Int) (ha : 0 < ws.sum) : (shareL t ws).sum = t := by
  have e : shareL t ws = (List.range ws.length).map fun i => wh t ws.sum (ws.getD i 0) + if chosen (restsL t ws.sum ws) (leftN t ws.sum ws) i then 1 else 0 := by
    refine List.ext_getElem (by simp [shareL]) fun i h1 h2 => ?_
    simp [shareL, List.getD_eq_getElem?_getD]
    rw [List.getElem?_eq_getElem (by simpa using h2)]; rfl
  rw [e, sum_map_add, sum_marks, chosen_count _ _ _ _ (by have := left_lt t ws ha; omega), left_int t ws ha]
  have : (List.range ws.length).map (fun i => wh t ws.sum (ws.getD i 0)) = ws.map (wh t ws.sum) := by
    refine List.ext_getElem (by simp) fun i h1 h2 => ?_
    simp [List.getD_eq_getElem?_getD]
    rw [List.getElem?_eq_getElem (by simpa using h2)]; rfl
  rw [this]; omega
end Go.Tk
end
