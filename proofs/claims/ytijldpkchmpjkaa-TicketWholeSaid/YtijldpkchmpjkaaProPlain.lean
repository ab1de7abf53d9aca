/- PRORATE, plain: a strict order on rests and places; lists sorted by it; what is given out. -/
namespace Go.Tk

/-- the greater rest first; of equal ones the first -/
def lt2 (a b : Int × Nat) : Prop := b.1 < a.1 ∨ (a.1 = b.1 ∧ a.2 < b.2)
instance (a b : Int × Nat) : Decidable (lt2 a b) := by unfold lt2; exact inferInstance
theorem lt2_irrefl (a : Int × Nat) : ¬ lt2 a a := by unfold lt2; omega
theorem lt2_trans {a b c : Int × Nat} (h : lt2 a b) (k : lt2 b c) : lt2 a c := by unfold lt2 at *; omega
theorem lt2_asymm {a b : Int × Nat} (h : lt2 a b) : ¬ lt2 b a := by unfold lt2 at *; omega
theorem lt2_total {a b : Int × Nat} (h : a ≠ b) : lt2 a b ∨ lt2 b a := by
  unfold lt2
  have : a.1 ≠ b.1 ∨ a.2 ≠ b.2 := by
    rcases Decidable.em (a.1 = b.1) with h1 | h1
    · right; intro h2; exact h (Prod.ext h1 h2)
    · exact .inl h1
  omega

/-- two lists sorted so, with the same elements, are one -/
theorem sorted_unique : ∀ {S T : List (Int × Nat)}, S.Pairwise lt2 → T.Pairwise lt2 → S.Perm T → S = T
  | [], T, _, _, h => (List.nil_perm.1 h).symm
  | x :: S, [], _, _, h => absurd h.length_eq (by simp)
  | x :: S, y :: T, hS, hT, h => by
    obtain ⟨s1, s2⟩ := List.pairwise_cons.1 hS
    obtain ⟨t1, t2⟩ := List.pairwise_cons.1 hT
    have hxy : x = y := by
      rcases Decidable.em (x = y) with e | e
      · exact e
      · have h1 : x ∈ y :: T := h.mem_iff.1 (List.mem_cons_self)
        have h2 : y ∈ x :: S := h.mem_iff.2 (List.mem_cons_self)
        rcases List.mem_cons.1 h1 with h1 | h1
        · exact absurd h1 e
        · rcases List.mem_cons.1 h2 with h2 | h2
          · exact absurd h2.symm e
          · exact absurd (s1 y h2) (lt2_asymm (t1 x h1))
    subst hxy
    rw [sorted_unique s2 t2 (List.Perm.cons_inv h)]

/-- who comes before one of the first is one of the first -/
theorem take_closed {S : List (Int × Nat)} (hS : S.Pairwise lt2) {n : Nat} {x y : Int × Nat} (hx : x ∈ S.take n) (hy : y ∈ S) (h : lt2 y x) : y ∈ S.take n := by
  rw [← List.take_append_drop n S] at hy hS
  rcases List.mem_append.1 hy with hy | hy
  · exact hy
  · exact absurd h (lt2_asymm ((List.pairwise_append.1 hS).2.2 x hx y hy))
end Go.Tk
