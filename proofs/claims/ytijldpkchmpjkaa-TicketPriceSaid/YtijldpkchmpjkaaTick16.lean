/- TicketPrice: the plain law: a tax more makes it that much dearer, or is refused. -/
import Derived.Test.YtijldpkchmpjkaaTick15
namespace Go.Proofs.Ytijldpkchmpjkaa
open Go.RowKit Go.Lib Go.Tk Go.Sort Go.Shelf

/-- one tax more -/
def addT (s : SaleV) (x : Tax) : SaleV := { s with taxes := s.taxes ++ [x] }

theorem shape_nn {s : SaleV} {n : Int} (h : shapeB s n = true) : ∀ x ∈ priceL s, 0 ≤ x := by
  simp only [shapeB, Bool.and_eq_true] at h
  obtain ⟨⟨⟨⟨-, -⟩, h3⟩, -⟩, h5⟩ := h
  simp only [must3, List.all_cons, List.all_nil, Bool.and_true, Bool.and_eq_true, amtB, decide_eq_true_eq] at h3
  have hnn : ∀ t ∈ s.taxes, 0 ≤ t.amt := fun t ht => by
    simp only [must5, Bool.not_eq_true'] at h5
    have hb : taxBad t = false := by
      cases hq : taxBad t with
      | false => rfl
      | true => rw [List.any_eq_true.2 ⟨t, ht, hq⟩] at h5; cases h5
    simp only [taxBad, Bool.or_eq_false_iff, Bool.not_eq_false'] at hb
    have := hb.2
    simp only [amtB, Bool.and_eq_true, decide_eq_true_eq] at this
    exact this.1
  intro x hx
  rcases List.mem_cons.1 hx with rfl | hx
  · exact h3.1.1
  · obtain ⟨t, ht, rfl⟩ := List.mem_map.1 hx; exact hnn t ht

theorem sum_nn : ∀ {l : List Int}, (∀ x ∈ l, 0 ≤ x) → 0 ≤ l.sum
  | [], _ => by simp
  | x :: r, h => by
    have h1 := h x (by simp)
    have h2 := sum_nn (l := r) (fun y hy => h y (by simp [hy]))
    simp; omega

/-- a sale that may be: its price is the sum, and may be -/
theorem price_ok {s : SaleV} {n : Int} (h : checkE s n = 0) : shapeB s n = true ∧ sumFrom 0 (priceL s) = ((priceL s).sum, 0) ∧ mayI (priceL s).sum = true ∧ s.fare ≤ (priceL s).sum ∧ 0 ≤ (priceL s).sum := by
  unfold checkE at h
  split at h
  · simp at h
  · split at h
    · rename_i hs
      have hn := shape_nn hs
      have e := sumFrom_nn (priceL s) 0 (by decide) (by omega) hn
      rw [Int.zero_add] at e
      have hm : mayI (priceL s).sum = true := by
        cases hq : mayI (priceL s).sum with
        | true => rfl
        | false => rw [hq] at e; rw [e] at h; simp at h
      rw [hm] at e
      have h2 : 0 ≤ (s.taxes.map (·.amt)).sum := sum_nn (fun y hy => hn y (by simp [priceL] at hy ⊢; exact .inr hy))
      refine ⟨hs, e, hm, ?_, sum_nn hn⟩
      rw [priceL, List.sum_cons]
      omega
    · simp at h

theorem priceL_addT (s : SaleV) (x : Tax) : (priceL (addT s x)).sum = (priceL s).sum + x.amt := by
  simp [priceL, addT, List.sum_append]; omega

theorem add_ok {s : SaleV} {n : Int} {x : Tax} (h2 : checkE (addT s x) n = 0) : sumFrom 0 (priceL (addT s x)) = ((priceL s).sum + x.amt, 0) ∧ s.taxes.length + 1 ≤ 4 := by
  obtain ⟨hs, e, -⟩ := price_ok h2
  rw [priceL_addT] at e
  refine ⟨e, ?_⟩
  simp only [shapeB, Bool.and_eq_true] at hs
  have := hs.1.1.1.2
  simp only [must2, Bool.and_eq_true, decide_eq_true_eq] at this
  simpa [addT] using this.2

theorem add_no {s : SaleV} {n : Int} {x : Tax} (h : checkE s n = 0) (h2 : checkE (addT s x) n ≠ 0) (hl : s.taxes.length + 1 ≤ 4) (hc : x.code.size = 2) (ha : 0 ≤ x.amt) (hg : (sumFrom 0 (priceL (addT s x))).2 = 0) : lettersB [] x.code.data.toList = false := by
  cases hq : lettersB [] x.code.data.toList with
  | false => rfl
  | true =>
    exfalso
    obtain ⟨hs, e, hm, hf, h0⟩ := price_ok h
    apply h2
    have hn := shape_nn hs
    have hn2 : ∀ y ∈ priceL (addT s x), 0 ≤ y := fun y hy => by
      simp only [priceL, addT, List.map_append, List.map_cons, List.map_nil, List.mem_cons, List.mem_append, List.not_mem_nil, or_false] at hy
      rcases hy with rfl | hy | rfl
      · exact hn _ (by simp [priceL])
      · exact hn _ (by simp only [priceL, List.mem_cons]; exact .inr hy)
      · exact ha
    have e2 := sumFrom_nn (priceL (addT s x)) 0 (by decide) (by omega) hn2
    rw [Int.zero_add, priceL_addT] at e2
    have hmx : mayI ((priceL s).sum + x.amt) = true := by
      cases hq : mayI ((priceL s).sum + x.amt) with
      | true => rfl
      | false => rw [hq] at e2; rw [e2] at hg; simp at hg
    have hb := mayI_of hmx
    have hamt : amtB x.amt = true := by unfold amtB; simp; omega
    have htb : taxBad x = false := by simp [taxBad, hc, hq, hamt]
    have hsh : shapeB (addT s x) n = true := by
      simp only [shapeB, Bool.and_eq_true] at hs ⊢
      obtain ⟨⟨⟨⟨a1, a2⟩, a3⟩, a4⟩, a5⟩ := hs
      refine ⟨⟨⟨⟨a1, ?_⟩, a3⟩, a4⟩, ?_⟩
      · simp only [must2, Bool.and_eq_true, decide_eq_true_eq] at a2 ⊢
        exact ⟨a2.1, by simpa [addT] using hl⟩
      · simp only [must5, Bool.not_eq_true'] at a5 ⊢
        simp [addT, List.any_append, a5, htb]
    unfold checkE at h ⊢
    by_cases hr : n < 2 ∨ 8 < n
    · rw [if_pos hr] at h; simp at h
    · rw [if_neg hr, if_pos hsh]; exact hg

theorem checkE_kinds (s : SaleV) (n : Int) : checkE s n = 0 ∨ checkE s n = 1 ∨ checkE s n = 90 ∨ checkE s n = 7 := by
  unfold checkE
  split
  · exact .inr (.inl rfl)
  · split
    · rename_i hs
      rw [sumFrom_nn (priceL s) 0 (by decide) (by omega) (shape_nn hs)]
      split
      · exact .inl rfl
      · exact .inr (.inr (.inr rfl))
    · exact .inr (.inr (.inl rfl))
end Go.Proofs.Ytijldpkchmpjkaa
