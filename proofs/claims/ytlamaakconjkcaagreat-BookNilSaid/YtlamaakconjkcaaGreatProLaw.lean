/- PRORATE, plain: shares by whole parts and the greatest rests; what follows of them. -/
import Derived.Test.YtlamaakconjkcaaGreatMf8d58ad
namespace Go.Tk
set_option maxRecDepth 100000

def wh (t all w : Int) : Int := t * w / all
def rs (t all w : Int) : Int := t * w % all
def restsL (t all : Int) (ws : List Int) : List (Int × Nat) := (ws.map (rs t all)).zipIdx
def leftN (t all : Int) (ws : List Int) : Nat := (t - (ws.map (wh t all)).sum).toNat
def le2 (a b : Int × Nat) : Bool := !decide (lt2 b a)
def sortL (l : List (Int × Nat)) : List (Int × Nat) := l.mergeSort le2
def chosen (l : List (Int × Nat)) (k : Nat) (i : Nat) : Bool := ((sortL l).take k).any fun x => x.2 == i
def shareL (t : Int) (ws : List Int) : List Int :=
  ws.zipIdx.map fun x => wh t ws.sum x.1 + if chosen (restsL t ws.sum ws) (leftN t ws.sum ws) x.2 then 1 else 0

theorem sortL_perm (l : List (Int × Nat)) : (sortL l).Perm l := List.mergeSort_perm l le2

theorem sortL_sorted {l : List (Int × Nat)} (h : l.Nodup) : (sortL l).Pairwise lt2 := by
  have h1 : (sortL l).Pairwise (fun a b => le2 a b = true) := by
    refine List.pairwise_mergeSort (le := le2) ?_ ?_ l
    · intro a b c h1 h2
      simp only [le2, Bool.not_eq_true', decide_eq_false_iff_not] at *
      unfold lt2 at *; omega
    · intro a b
      simp only [le2, Bool.or_eq_true, Bool.not_eq_true', decide_eq_false_iff_not]
      unfold lt2; omega
  have h2 : (sortL l).Nodup := (sortL_perm l).symm.nodup h
  refine (h1.and h2).imp ?_
  intro a b ⟨h3, h4⟩
  simp only [le2, Bool.not_eq_true', decide_eq_false_iff_not] at h3
  rcases lt2_total h4 with h | h
  · exact h
  · exact absurd h h3

theorem sortL_unique {l S : List (Int × Nat)} (hS : S.Pairwise lt2) (hp : S.Perm l) : S = sortL l := by
  have hn : S.Nodup := hS.imp (fun {a b} (h : lt2 a b) => by intro e; subst e; exact lt2_irrefl a h)
  exact sorted_unique hS (sortL_sorted (hp.nodup hn)) (hp.trans (sortL_perm l).symm)

theorem zipIdx_nodup (l : List Int) : l.zipIdx.Nodup := by
  have : (l.zipIdx.map (·.2)).Nodup := by rw [List.zipIdx_map_snd]; exact List.nodup_range'
  exact (List.pairwise_map.1 this).imp (fun {a b} h e => h (by rw [e]))

theorem rests_sorted (t all : Int) (ws : List Int) : (sortL (restsL t all ws)).Pairwise lt2 := sortL_sorted (zipIdx_nodup _)

theorem mem_rests {t all : Int} {ws : List Int} {x : Int × Nat} (h : x ∈ sortL (restsL t all ws)) : x.2 < ws.length ∧ x.1 = rs t all (ws.getD x.2 0) := by
  have h := (sortL_perm _).mem_iff.1 h
  unfold restsL at h
  obtain ⟨h1, h2⟩ := List.mk_mem_zipIdx_iff_getElem?.1 (show (x.1, x.2) ∈ _ from h) |> fun e => (⟨(List.getElem?_eq_some_iff.1 e).1, e⟩ : ∃ _ : x.2 < (ws.map (rs t all)).length, (ws.map (rs t all))[x.2]? = some x.1)
  have h3 : x.2 < ws.length := by simpa using h1
  refine ⟨h3, ?_⟩
  rw [List.getElem?_map, List.getElem?_eq_getElem h3] at h2
  simp only [Option.map_some, Option.some.injEq] at h2
  rw [← h2]; simp [List.getD_eq_getElem?_getD, h3]

theorem rests_mem {t all : Int} {ws : List Int} {i : Nat} (h : i < ws.length) : (rs t all (ws.getD i 0), i) ∈ sortL (restsL t all ws) := by
  refine (sortL_perm _).mem_iff.2 ?_
  unfold restsL
  refine List.mk_mem_zipIdx_iff_getElem?.2 ?_
  rw [List.getElem?_map, List.getElem?_eq_getElem h]
  simp [List.getD_eq_getElem?_getD, h]

theorem sort_len (t all : Int) (ws : List Int) : (sortL (restsL t all ws)).length = ws.length := by
  rw [(sortL_perm _).length_eq]; simp [restsL]

theorem chosen_iff {t all : Int} {ws : List Int} {k i : Nat} : chosen (restsL t all ws) k i = true ↔ (rs t all (ws.getD i 0), i) ∈ (sortL (restsL t all ws)).take k := by
  unfold chosen
  rw [List.any_eq_true]
  constructor
  · rintro ⟨x, hx, hxi⟩
    have hxi : x.2 = i := by simpa using hxi
    obtain ⟨_, h2⟩ := mem_rests (List.mem_of_mem_take hx)
    rw [hxi] at h2
    have : x = (rs t all (ws.getD i 0), i) := Prod.ext h2 hxi
    rw [← this]; exact hx
  · intro h; exact ⟨_, h, by simp⟩

/-- one more is given out: to the one that stands at k -/
theorem chosen_succ {t all : Int} {ws : List Int} {k i : Nat} (hk : k < ws.length) :
    chosen (restsL t all ws) (k + 1) i = (chosen (restsL t all ws) k i || ((sortL (restsL t all ws)).getD k (0, 0)).2 == i) := by
  unfold chosen
  have hk' : k < (sortL (restsL t all ws)).length := by rw [sort_len]; exact hk
  rw [List.take_succ_eq_append_getElem hk', List.any_append]
  simp [List.getD_eq_getElem?_getD, hk']

theorem not_chosen_at {t all : Int} {ws : List Int} {k : Nat} (hk : k < ws.length) : chosen (restsL t all ws) k ((sortL (restsL t all ws)).getD k (0, 0)).2 = false := by
  have hk' : k < (sortL (restsL t all ws)).length := by rw [sort_len]; exact hk
  have hm : (sortL (restsL t all ws))[k] ∈ sortL (restsL t all ws) := List.getElem_mem hk'
  obtain ⟨h1, h2⟩ := mem_rests hm
  have e : (sortL (restsL t all ws)).getD k (0, 0) = (sortL (restsL t all ws))[k] := by simp [List.getD_eq_getElem?_getD, hk']
  rw [e]
  cases hc : chosen (restsL t all ws) k (sortL (restsL t all ws))[k].2 with
  | false => rfl
  | true =>
    have := (chosen_iff).1 hc
    rw [← h2] at this
    have hsrt := rests_sorted t all ws
    rw [← List.take_append_drop k (sortL (restsL t all ws)), List.pairwise_append] at hsrt
    have hd : (sortL (restsL t all ws))[k] ∈ (sortL (restsL t all ws)).drop k := by
      rw [List.drop_eq_getElem_cons hk']; exact List.mem_cons_self
    exact absurd (hsrt.2.2 _ this _ hd) (lt2_irrefl _)

theorem mem_take_mono {S : List (Int × Nat)} {k l : Nat} (h : k ≤ l) {x : Int × Nat} (hx : x ∈ S.take k) : x ∈ S.take l := by
  have : S.take k = (S.take l).take k := by rw [List.take_take, Nat.min_eq_left h]
  rw [this] at hx; exact List.mem_of_mem_take hx

/-! ### sums -/
theorem sum_map_add {α : Type} (f g : α → Int) : ∀ l : List α, (l.map fun x => f x + g x).sum = (l.map f).sum + (l.map g).sum
  | [] => by simp
  | x :: l => by simp [sum_map_add f g l]; omega
theorem sum_map_mul {α : Type} (c : Int) (f : α → Int) : ∀ l : List α, (l.map fun x => c * f x).sum = c * (l.map f).sum
  | [] => by simp
  | x :: l => by simp [sum_map_mul c f l, Int.mul_add]
theorem sum_nonneg : ∀ l : List Int, (∀ x ∈ l, 0 ≤ x) → 0 ≤ l.sum
  | [], _ => by simp
  | x :: l, h => by
    have := sum_nonneg l (fun y hy => h y (by simp [hy]))
    have := h x (by simp)
    simp; omega
theorem sum_le {α : Type} (f g : α → Int) : ∀ l : List α, (∀ x ∈ l, f x ≤ g x) → (l.map f).sum ≤ (l.map g).sum
  | [], _ => by simp
  | x :: l, h => by
    have := sum_le f g l (fun y hy => h y (by simp [hy]))
    have := h x (by simp)
    simp; omega
theorem sum_const {α : Type} (c : Int) : ∀ l : List α, (l.map fun _ => c).sum = l.length * c
  | [] => by simp
  | x :: l => by simp [sum_const c l, Int.add_mul]; omega
theorem le_sum : ∀ (l : List Int) (_ : ∀ x ∈ l, 0 ≤ x) (x : Int), x ∈ l → x ≤ l.sum
  | y :: l, h, x, hx => by
    have h1 := sum_nonneg l (fun y hy => h y (by simp [hy]))
    have h2 := h y (by simp)
    rcases List.mem_cons.1 hx with rfl | hx
    · simp; omega
    · have := le_sum l (fun y hy => h y (by simp [hy])) x hx
      simp; omega

/-- what is left, times the whole, is what the rests make up -/
theorem left_rests (t : Int) (ws : List Int) : ws.sum * (t - (ws.map (wh t ws.sum)).sum) = (ws.map (rs t ws.sum)).sum := by
  have h : ∀ w ∈ ws, ws.sum * wh t ws.sum w + rs t ws.sum w = t * w := fun w _ => Int.mul_ediv_add_emod _ _
  have h1 : (ws.map fun w => ws.sum * wh t ws.sum w + rs t ws.sum w) = ws.map fun w => t * w := List.map_congr_left h
  have h2 := congrArg List.sum h1
  rw [sum_map_add, sum_map_mul, sum_map_mul, List.map_id'] at h2
  rw [Int.mul_sub, Int.mul_comm ws.sum t]
  omega
theorem rs_bd (t all w : Int) (ha : 0 < all) : 0 ≤ rs t all w ∧ rs t all w < all := ⟨Int.emod_nonneg _ (by omega), Int.emod_lt_of_pos _ ha⟩

theorem left_nonneg (t : Int) (ws : List Int) (ha : 0 < ws.sum) : 0 ≤ t - (ws.map (wh t ws.sum)).sum := by
  have h := left_rests t ws
  have h2 : 0 ≤ (ws.map (rs t ws.sum)).sum := sum_nonneg _ (by
    intro x hx; obtain ⟨w, _, rfl⟩ := List.mem_map.1 hx; exact (rs_bd t ws.sum w ha).1)
  rcases Int.lt_or_le (t - (ws.map (wh t ws.sum)).sum) 0 with k | k
  · have := Int.mul_neg_of_pos_of_neg ha k; omega
  · exact k

theorem left_int (t : Int) (ws : List Int) (ha : 0 < ws.sum) : (leftN t ws.sum ws : Int) = t - (ws.map (wh t ws.sum)).sum := by
  have := left_nonneg t ws ha
  unfold leftN; omega

theorem perm_sum {l m : List Int} (h : l.Perm m) : l.sum = m.sum := by
  induction h with
  | nil => rfl
  | cons x _ ih => simp [ih]
  | swap x y l => simp; omega
  | trans _ _ h1 h2 => rw [h1, h2]
/-- the rests' sum over the sorted ones -/
theorem rests_sum (t all : Int) (ws : List Int) : ((sortL (restsL t all ws)).map (·.1)).sum = (ws.map (rs t all)).sum := by
  have h : ((sortL (restsL t all ws)).map (·.1)).Perm ((restsL t all ws).map (·.1)) := (sortL_perm _).map _
  have h2 : (restsL t all ws).map (·.1) = ws.map (rs t all) := by unfold restsL; exact List.zipIdx_map_fst _ _
  rw [h2] at h
  exact perm_sum h
/-- fewer are left than there are weights; and who is given one has a rest -/
theorem left_lt (t : Int) (ws : List Int) (ha : 0 < ws.sum) : leftN t ws.sum ws < ws.length := by
  have hl := left_int t ws ha
  have h := left_rests t ws
  rw [← hl] at h
  have h2 : (ws.map (rs t ws.sum)).sum ≤ (ws.map (fun _ => ws.sum - 1)).sum := sum_le _ _ _ (fun w _ => by have := rs_bd t ws.sum w ha; omega)
  rw [sum_const] at h2
  rcases Nat.lt_or_ge (leftN t ws.sum ws) ws.length with k | k
  · exact k
  · exfalso
    have hn : 0 < ws.length := by
      cases ws with
      | nil => simp at ha
      | cons _ _ => simp
    have h3 : ws.sum * (ws.length : Int) ≤ ws.sum * (leftN t ws.sum ws : Int) := Int.mul_le_mul_of_nonneg_left (by omega) (by omega)
    rw [Int.mul_sub, Int.mul_one, Int.mul_comm (ws.length : Int)] at h2
    omega
theorem chosen_rest (t : Int) (ws : List Int) (ha : 0 < ws.sum) {i : Nat} (h : chosen (restsL t ws.sum ws) (leftN t ws.sum ws) i = true) : 0 < rs t ws.sum (ws.getD i 0) := by
  have hb := rs_bd t ws.sum (ws.getD i 0) ha
  rcases Int.lt_or_le 0 (rs t ws.sum (ws.getD i 0)) with k | k
  · exact k
  · exfalso
    have hz : rs t ws.sum (ws.getD i 0) = 0 := by omega
    have hm := (chosen_iff).1 h
    rw [hz] at hm
    have hS := rests_sorted t ws.sum ws
    have hsum := rests_sum t ws.sum ws
    generalize hSe : sortL (restsL t ws.sum ws) = S at hm hS hsum
    have hL := left_lt t ws ha
    have hlr := left_rests t ws
    rw [← left_int t ws ha] at hlr
    have hSl : S.length = ws.length := by rw [← hSe, sort_len]
    have hall : ∀ x ∈ S, 0 ≤ x.1 ∧ x.1 < ws.sum := fun x hx => by
      rw [← hSe] at hx
      rw [(mem_rests hx).2]; exact rs_bd _ _ _ ha
    -- behind the chosen ones all rests are 0
    have hd : ∀ x ∈ S.drop (leftN t ws.sum ws), x.1 = 0 := fun x hx => by
      have h1 := hS
      rw [← List.take_append_drop (leftN t ws.sum ws) S, List.pairwise_append] at h1
      have h2 := h1.2.2 _ hm x hx
      have h3 := (hall x (List.mem_of_mem_drop hx)).1
      unfold lt2 at h2; simp at h2; omega
    have hsplit : (S.map (·.1)).sum = ((S.take (leftN t ws.sum ws)).map (·.1)).sum + ((S.drop (leftN t ws.sum ws)).map (·.1)).sum := by
      conv => lhs; rw [← List.take_append_drop (leftN t ws.sum ws) S]
      rw [List.map_append, List.sum_append_int]
    have hdz : ((S.drop (leftN t ws.sum ws)).map (·.1)).sum = 0 := by
      have h1 := sum_const (0 : Int) (S.drop (leftN t ws.sum ws))
      have h2 : (S.drop (leftN t ws.sum ws)).map (·.1) = (S.drop (leftN t ws.sum ws)).map fun _ => (0 : Int) := List.map_congr_left hd
      rw [h2, h1, Int.mul_zero]
    -- of the chosen ones one has 0
    obtain ⟨A, B, hAB⟩ := List.append_of_mem hm
    have hlen : (A ++ ((0 : Int), i) :: B).length = leftN t ws.sum ws := by rw [← hAB, List.length_take]; omega
    have hb2 : ∀ L : List (Int × Nat), (∀ x ∈ L, x ∈ S) → (L.map (·.1)).sum ≤ (L.length : Int) * ws.sum := fun L hL2 => by
      have := sum_le (fun x : Int × Nat => x.1) (fun _ => ws.sum) L (fun x hx => by have := hall x (hL2 x hx); omega)
      rw [sum_const] at this; exact this
    have hA : ∀ x ∈ A, x ∈ S := fun x hx => List.mem_of_mem_take (by rw [hAB]; simp [hx])
    have hB : ∀ x ∈ B, x ∈ S := fun x hx => List.mem_of_mem_take (by rw [hAB]; simp [hx])
    have e1 := hb2 A hA
    have e2 := hb2 B hB
    rw [hsplit, hdz, hAB] at hsum
    simp only [List.map_append, List.map_cons, List.sum_append_int, List.sum_cons] at hsum
    simp only [List.length_append, List.length_cons] at hlen
    have : (leftN t ws.sum ws : Int) = A.length + (B.length + 1) := by omega
    rw [this, Int.mul_comm, Int.add_mul, Int.add_mul] at hlr
    omega

theorem getD_zipIdx_map {α : Type} (f : Int × Nat → α) (d : α) (ws : List Int) (i : Nat) (h : i < ws.length) : (ws.zipIdx.map f).getD i d = f (ws.getD i 0, i) := by
  simp [List.getD_eq_getElem?_getD, h]

theorem shareL_len (t : Int) (ws : List Int) : (shareL t ws).length = ws.length := by simp [shareL]
theorem shareL_get (t : Int) (ws : List Int) (i : Nat) (h : i < ws.length) : (shareL t ws).getD i 0 = wh t ws.sum (ws.getD i 0) + if chosen (restsL t ws.sum ws) (leftN t ws.sum ws) i then 1 else 0 := by
  unfold shareL
  rw [getD_zipIdx_map _ _ _ _ h]

/-- how many are chosen among the first n -/
theorem sum_marks (f : Nat → Bool) (n : Nat) : ((List.range n).map fun i => if f i then (1 : Int) else 0).sum = ((List.range n).filter f).length := by
  induction n with
  | zero => simp
  | succ n ih =>
    rw [List.range_succ, List.map_append, List.sum_append_int, ih, List.filter_append, List.length_append]
    cases h : f n <;> simp [h]

theorem chosen_count (t all : Int) (ws : List Int) (k : Nat) (hk : k ≤ ws.length) : ((List.range ws.length).filter (chosen (restsL t all ws) k)).length = k := by
  have hS := rests_sorted t all ws
  have hl := sort_len t all ws
  have hp : (((sortL (restsL t all ws)).take k).map (·.2)).Perm ((List.range ws.length).filter (chosen (restsL t all ws) k)) := by
    refine (List.perm_ext_iff_of_nodup ?_ (List.nodup_range.filter _)).2 ?_
    · have h1 : ((restsL t all ws).map (·.2)).Nodup := by unfold restsL; rw [List.zipIdx_map_snd]; exact List.nodup_range'
      have h2 : ((sortL (restsL t all ws)).map (·.2)).Nodup := ((sortL_perm _).map _).symm.nodup h1
      rw [List.map_take]; exact h2.sublist (List.take_sublist _ _)
    · intro i
      rw [List.mem_filter, List.mem_range, List.mem_map]
      constructor
      · rintro ⟨x, hx, rfl⟩
        refine ⟨(mem_rests (List.mem_of_mem_take hx)).1, ?_⟩
        unfold chosen; rw [List.any_eq_true]; exact ⟨x, hx, by simp⟩
      · rintro ⟨_, hc⟩
        unfold chosen at hc; rw [List.any_eq_true] at hc
        obtain ⟨x, hx, he⟩ := hc
        exact ⟨x, hx, by simpa using he⟩
  rw [← hp.length_eq, List.length_map, List.length_take, hl]; omega

/-- THE SHARES MAKE UP THE TOTAL -/
theorem shareL_sum (t : Int) (ws : List Int) (ha : 0 < ws.sum) : (shareL t ws).sum = t := by
  have e : shareL t ws = (List.range ws.length).map fun i => wh t ws.sum (ws.getD i 0) + if chosen (restsL t ws.sum ws) (leftN t ws.sum ws) i then 1 else 0 := by
    refine List.ext_getElem (by simp [shareL]) fun i h1 h2 => ?_
    simp [shareL, List.getD_eq_getElem?_getD]
    rw [List.getElem?_eq_getElem (by simpa using h2)]; rfl
  rw [e, sum_map_add, sum_marks, chosen_count _ _ _ _ (by have := left_lt t ws ha; omega), left_int t ws ha]
  have : (List.range ws.length).map (fun i => wh t ws.sum (ws.getD i 0)) = ws.map (wh t ws.sum) := by
    refine List.ext_getElem (by simp) fun i h1 h2 => ?_
    simp [List.getD_eq_getElem?_getD]
    rw [List.getElem?_eq_getElem (by simpa using h2)]; rfl
  rw [this]; omega

/-- a greater weight has no less; of equal ones the first has no less -/
theorem shareL_mono (t : Int) (ws : List Int) (ha : 0 < ws.sum) (ht : 0 ≤ t) {i k : Nat} (hi : i < ws.length) (hk : k < ws.length) (h : ws.getD i 0 < ws.getD k 0 ∨ ws.getD i 0 = ws.getD k 0 ∧ k < i) : (shareL t ws).getD i 0 ≤ (shareL t ws).getD k 0 := by
  rw [shareL_get _ _ _ hi, shareL_get _ _ _ hk]
  have hw : wh t ws.sum (ws.getD i 0) ≤ wh t ws.sum (ws.getD k 0) := Int.ediv_le_ediv ha (Int.mul_le_mul_of_nonneg_left (by omega) ht)
  by_cases hwe : wh t ws.sum (ws.getD i 0) = wh t ws.sum (ws.getD k 0)
  · have hr : rs t ws.sum (ws.getD i 0) ≤ rs t ws.sum (ws.getD k 0) := by
      have h1 := Int.mul_ediv_add_emod (t * ws.getD i 0) ws.sum
      have h2 := Int.mul_ediv_add_emod (t * ws.getD k 0) ws.sum
      have h3 : t * ws.getD i 0 ≤ t * ws.getD k 0 := Int.mul_le_mul_of_nonneg_left (by omega) ht
      unfold wh at hwe; unfold rs
      rw [hwe] at h1; omega
    by_cases hc : chosen (restsL t ws.sum ws) (leftN t ws.sum ws) i = true
    · have hm := (chosen_iff).1 hc
      have hkk : (rs t ws.sum (ws.getD k 0), k) ∈ (sortL (restsL t ws.sum ws)).take (leftN t ws.sum ws) := by
        by_cases hlt : lt2 (rs t ws.sum (ws.getD k 0), k) (rs t ws.sum (ws.getD i 0), i)
        · exact take_closed (rests_sorted _ _ _) hm (rests_mem hk) hlt
        · exfalso
          unfold lt2 at hlt; simp only [not_or, not_and] at hlt
          rcases h with h | ⟨h, h'⟩
          · have hre : rs t ws.sum (ws.getD k 0) = rs t ws.sum (ws.getD i 0) := by omega
            -- equal rests and equal whole parts: t = 0, or equal weights
            have h1 := Int.mul_ediv_add_emod (t * ws.getD i 0) ws.sum
            have h2 := Int.mul_ediv_add_emod (t * ws.getD k 0) ws.sum
            unfold wh at hwe; unfold rs at hre
            rw [hwe] at h1
            have h3 : t * ws.getD i 0 = t * ws.getD k 0 := by omega
            rcases Int.lt_or_eq_of_le ht with h4 | h4
            · have := Int.mul_lt_mul_of_pos_left h h4; omega
            · have := chosen_rest t ws ha hc
              rw [← h4] at this; unfold rs at this; simp at this
          · rw [h] at hlt; omega
      rw [if_pos hc, if_pos ((chosen_iff).2 hkk)]; omega
    · rw [if_neg hc]; split <;> omega
  · split <;> split <;> omega
end Go.Tk
