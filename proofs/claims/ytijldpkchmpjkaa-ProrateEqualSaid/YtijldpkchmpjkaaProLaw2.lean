/- PRORATE, plain: equal weights, weights taken some times, totals that come out even. -/
import Derived.Test.YtijldpkchmpjkaaProLaw
namespace Go.Tk

theorem sum_map_mulR (k : Int) : ∀ l : List Int, (l.map fun x => x * k).sum = l.sum * k
  | [] => by simp
  | x :: l => by simp [sum_map_mulR k l, Int.add_mul]

/-! ### totals that come out even -/
theorem exact_share (ws : List Int) (k : Int) (ha : 0 < ws.sum) : shareL (ws.sum * k) ws = ws.map fun x => x * k := by
  have hwh : ∀ x, wh (ws.sum * k) ws.sum x = x * k := fun x => by
    unfold wh
    rw [Int.mul_assoc, Int.mul_ediv_cancel_left _ (by omega), Int.mul_comm]
  have hz : leftN (ws.sum * k) ws.sum ws = 0 := by
    unfold leftN
    have : ws.map (wh (ws.sum * k) ws.sum) = ws.map fun x => x * k := List.map_congr_left fun x _ => hwh x
    rw [this, sum_map_mulR, Int.sub_self]; rfl
  unfold shareL
  rw [hz]
  have hc : ∀ l i, chosen l 0 i = false := fun l i => by simp [chosen]
  refine List.ext_getElem (by simp) fun i h1 h2 => by simp [hc, hwh]

/-! ### weights taken some times -/
theorem rs_times {t S w k : Int} (_hk : 0 < k) : rs t (S * k) (w * k) = rs t S w * k := by
  unfold rs
  rw [← Int.mul_assoc, Int.mul_comm (t * w) k, Int.mul_comm S k, Int.mul_emod_mul_of_pos _ _ _hk, Int.mul_comm]
theorem wh_times {t S w k : Int} (hk : 0 < k) : wh t (S * k) (w * k) = wh t S w := by
  unfold wh
  rw [← Int.mul_assoc, Int.mul_comm (t * w) k, Int.mul_comm S k, Int.mul_ediv_mul_of_pos _ _ hk]
theorem zipIdx_map_fst (f : Int → Int) (l : List Int) : (l.map f).zipIdx = l.zipIdx.map fun x => (f x.1, x.2) := by
  refine List.ext_getElem (by simp) fun i h1 h2 => by simp
theorem lt2_times {k : Int} (hk : 0 < k) {a b : Int × Nat} (h : lt2 a b) : lt2 (a.1 * k, a.2) (b.1 * k, b.2) := by
  unfold lt2 at *
  rcases h with h | ⟨h, h'⟩
  · exact .inl (Int.mul_lt_mul_of_pos_right h hk)
  · exact .inr ⟨by dsimp only; rw [h], h'⟩
theorem sortL_times {t S k : Int} {ws : List Int} (hk : 0 < k) : sortL (restsL t (S * k) (ws.map fun x => x * k)) = (sortL (restsL t S ws)).map fun x => (x.1 * k, x.2) := by
  refine (sortL_unique ?_ ?_).symm
  · exact (rests_sorted t S ws).map _ fun a b h => lt2_times hk h
  · have h := (sortL_perm (restsL t S ws)).map fun x => (x.1 * k, x.2)
    refine h.trans (List.Perm.of_eq ?_)
    unfold restsL
    rw [← zipIdx_map_fst (fun x => x * k)]
    congr 1
    rw [List.map_map, List.map_map]
    exact List.map_congr_left fun x _ => (rs_times hk).symm
theorem chosen_times {t S k : Int} {ws : List Int} (hk : 0 < k) (n i : Nat) : chosen (restsL t (S * k) (ws.map fun x => x * k)) n i = chosen (restsL t S ws) n i := by
  unfold chosen
  rw [sortL_times hk, ← List.map_take, List.any_map]; rfl
theorem left_times {t S k : Int} {ws : List Int} (hk : 0 < k) : leftN t (S * k) (ws.map fun x => x * k) = leftN t S ws := by
  unfold leftN
  have : (ws.map fun x => x * k).map (wh t (S * k)) = ws.map (wh t S) := by
    rw [List.map_map]; exact List.map_congr_left fun x _ => wh_times hk
  rw [this]
theorem times_share (t : Int) (ws : List Int) (k : Int) (hk : 0 < k) : shareL t (ws.map fun x => x * k) = shareL t ws := by
  unfold shareL
  rw [sum_map_mulR, left_times hk]
  refine List.ext_getElem (by simp) fun i h1 h2 => by simp [chosen_times hk, wh_times hk]

/-! ### equal weights -/
theorem sum_replicate (n : Nat) (x : Int) : (List.replicate n x).sum = n * x := by simp
theorem equal_sort (n : Nat) (r : Int) : sortL (List.replicate n r).zipIdx = (List.replicate n r).zipIdx := by
  refine (sortL_unique ?_ (List.Perm.refl _)).symm
  refine List.pairwise_iff_getElem.2 fun i j hi hj hij => ?_
  simp only [List.getElem_zipIdx, List.getElem_replicate]
  exact .inr ⟨rfl, by simpa using hij⟩
theorem equal_chosen (n : Nat) (r : Int) (L i : Nat) (hL : L ≤ n) : chosen (List.replicate n r).zipIdx L i = decide (i < L) := by
  unfold chosen
  rw [equal_sort, Bool.eq_iff_iff, List.any_eq_true]
  simp only [decide_eq_true_eq]
  constructor
  · rintro ⟨x, hx, hxi⟩
    obtain ⟨q, hq, rfl⟩ := List.getElem_of_mem hx
    simp at hxi hq
    omega
  · intro h
    refine ⟨(r, i), ?_, by simp⟩
    refine List.mem_iff_getElem.2 ⟨i, by simp; omega, by simp⟩
theorem equal_share (t x : Int) (n i : Nat) (hn : i < n) (_ht : 0 ≤ t) (hx : 0 < x) : (shareL t (List.replicate n x)).getD i 0 = t / n + if (i : Int) < t % n then 1 else 0 := by
  have hn0 : (0 : Int) < n := by omega
  have hsum := sum_replicate n x
  have hwh : wh t (n * x) x = t / n := by unfold wh; rw [Int.mul_comm (n : Int) x, Int.mul_comm t x, Int.mul_ediv_mul_of_pos _ _ hx]
  have hleft : leftN t (n * x) (List.replicate n x) = (t % n).toNat := by
    unfold leftN
    rw [List.map_replicate, hwh, sum_replicate]
    have := Int.mul_ediv_add_emod t n
    congr 1; omega
  have hm := Int.emod_nonneg t (show (n : Int) ≠ 0 by omega)
  have hm2 := Int.emod_lt_of_pos t hn0
  rw [shareL_get _ _ _ (by simpa using hn), hsum, hleft]
  have hr : restsL t (n * x) (List.replicate n x) = (List.replicate n (rs t (n * x) x)).zipIdx := by unfold restsL; rw [List.map_replicate]
  rw [hr, equal_chosen _ _ _ _ (by omega)]
  have hg : (List.replicate n x).getD i 0 = x := by simp [List.getD_eq_getElem?_getD, hn]
  rw [hg, hwh]
  by_cases h : (i : Int) < t % n
  · rw [if_pos h, if_pos (by simp; omega)]
  · rw [if_neg h, if_neg (by simp; omega)]
end Go.Tk
