/- HANDOVER, plain: just one controls a coupon: the law. -/
import Derived.Test.YtjeppnhkgiljpaaM42
namespace Go.Proofs.Ytjeppnhkgiljpaa
set_option maxRecDepth 100000
open Go.RowKit Go.Lib Go.Tk Go.Shelf Go.Vc Go.Sx
set_option linter.unusedVariables false
set_option linter.unusedSimpArgs false

structure OneP (o : OwnV) (x : HeldV) (k : Kid) (D U : List MsV) : Prop where
  stay : o.away = false → nM 2 k D = 0 ∧ nM 5 k U = 0 ∧ x.here = false
  gone : o.away = true → o.dst = 1 ∧ nM 2 k D + nM 5 k U + (if x.here = true then 1 else 0) = 1
  dn : ∀ m ∈ D, m.kind = 2 → m.key = k → m.k.n = o.k.n
  upn : ∀ m ∈ U, m.kind = 5 → m.key = k → m.k.n = o.k.n
  hn : x.here = true → x.k.n = o.k.n
  le : x.k.n ≤ o.k.n
  lt : 0 < nM 2 k D → x.k.n < o.k.n
  lo : 0 ≤ o.k.n
  hi : o.k.n ≤ 4294967295
theorem nM_add (kind : Int) (k : Kid) (l : List MsV) {m : MsV} (hm : ¬(m.kind = kind ∧ m.key = k)) : nM kind k (l ++ [m]) = nM kind k l := by
  rw [nM_append]; show _ + ((if _ then 1 else 0) + 0) = _; rw [if_neg hm]; rfl
theorem nM_add1 (kind : Int) (k : Kid) (l : List MsV) {m : MsV} (hm : m.kind = kind ∧ m.key = k) : nM kind k (l ++ [m]) = nM kind k l + 1 := by
  rw [nM_append]; show _ + ((if _ then 1 else 0) + 0) = _; rw [if_pos hm]
theorem nM_drop (kind : Int) (k : Kid) (l : List MsV) {m : MsV} (hm : ¬(m.kind = kind ∧ m.key = k)) : nM kind k (m :: l) = nM kind k l := by
  show (if _ then 1 else 0) + _ = _; rw [if_neg hm, Nat.zero_add]
theorem nM_drop1 (kind : Int) (k : Kid) (l : List MsV) {m : MsV} (hm : m.kind = kind ∧ m.key = k) : nM kind k (m :: l) = nM kind k l + 1 := by
  show (if _ then 1 else 0) + _ = _; rw [if_pos hm]; omega
section
variable {o : OwnV} {x : HeldV} {k : Kid} {D U : List MsV} {m : MsV}
theorem OneP.addD (h : OneP o x k D U) (hm : ¬(m.kind = 2 ∧ m.key = k)) : OneP o x k (D ++ [m]) U := by
  have hz := nM_add 2 k D hm
  exact ⟨by rw [hz]; exact h.stay, by rw [hz]; exact h.gone, fun m' hm' e1 e2 => (List.mem_append.1 hm').elim (fun q => h.dn m' q e1 e2) (fun q => by rw [List.mem_singleton] at q; subst q; exact absurd ⟨e1, e2⟩ hm), h.upn, h.hn, h.le, by rw [hz]; exact h.lt, h.lo, h.hi⟩
theorem OneP.addU (h : OneP o x k D U) (hm : ¬(m.kind = 5 ∧ m.key = k)) : OneP o x k D (U ++ [m]) := by
  have hz := nM_add 5 k U hm
  exact ⟨by rw [hz]; exact h.stay, by rw [hz]; exact h.gone, h.dn, fun m' hm' e1 e2 => (List.mem_append.1 hm').elim (fun q => h.upn m' q e1 e2) (fun q => by rw [List.mem_singleton] at q; subst q; exact absurd ⟨e1, e2⟩ hm), h.hn, h.le, h.lt, h.lo, h.hi⟩
theorem OneP.dropD (h : OneP o x k (m :: D) U) (hm : ¬(m.kind = 2 ∧ m.key = k)) : OneP o x k D U := by
  have hz := nM_drop 2 k D hm
  exact ⟨by rw [← hz]; exact h.stay, by rw [← hz]; exact h.gone, fun m' hm' e1 e2 => h.dn m' (List.mem_cons_of_mem _ hm') e1 e2, h.upn, h.hn, h.le, by rw [← hz]; exact h.lt, h.lo, h.hi⟩
theorem OneP.dropU (h : OneP o x k D (m :: U)) (hm : ¬(m.kind = 5 ∧ m.key = k)) : OneP o x k D U := by
  have hz := nM_drop 5 k U hm
  exact ⟨by rw [← hz]; exact h.stay, by rw [← hz]; exact h.gone, h.dn, fun m' hm' e1 e2 => h.upn m' (List.mem_cons_of_mem _ hm') e1 e2, h.hn, h.le, h.lt, h.lo, h.hi⟩
theorem OneP.own {o' : OwnV} (h : OneP o x k D U) (h1 : o'.away = o.away) (h2 : o'.dst = o.dst) (h3 : o'.k = o.k) : OneP o' x k D U :=
  ⟨by rw [h1]; exact h.stay, by rw [h1, h2]; exact h.gone, by rw [h3]; exact h.dn, by rw [h3]; exact h.upn, by rw [h3]; exact h.hn, by rw [h3]; exact h.le, by rw [h3]; exact h.lt, by rw [h3]; exact h.lo, by rw [h3]; exact h.hi⟩
theorem OneP.held {x' : HeldV} (h : OneP o x k D U) (h1 : x'.here = x.here) (h2 : x'.k = x.k) : OneP o x' k D U :=
  ⟨by rw [h1]; exact h.stay, by rw [h1]; exact h.gone, h.dn, h.upn, by rw [h1, h2]; exact h.hn, by rw [h2]; exact h.le, by rw [h2]; exact h.lt, h.lo, h.hi⟩
theorem OneP.away_of (h : OneP o x k D U) (h1 : x.here = true ∨ 0 < nM 2 k D ∨ 0 < nM 5 k U) : o.away = true := by
  rcases Bool.eq_false_or_eq_true o.away with e | e
  · exact e
  · have := h.stay e
    rcases h1 with h1 | h1 | h1
    · rw [this.2.2] at h1; cases h1
    · omega
    · omega
theorem OneP.give (h : OneP o x k D U) (hx : x.here = true) : OneP o (goneH x) k D (U ++ [⟨5, k, x.k, 0, 0⟩]) := by
  have ha := h.away_of (.inl hx)
  have hg := h.gone ha
  rw [if_pos hx] at hg
  have hz := nM_add1 5 k U (m := ⟨5, k, x.k, 0, 0⟩) ⟨rfl, rfl⟩
  refine ⟨fun e => (by rw [ha] at e; cases e), fun _ => ⟨hg.1, ?_⟩, h.dn, ?_, fun e => (by cases e), h.le, h.lt, h.lo, h.hi⟩
  · rw [hz, if_neg (by intro e; cases e)]; omega
  · intro m' hm' e1 e2
    rcases List.mem_append.1 hm' with q | q
    · exact h.upn m' q e1 e2
    · rw [List.mem_singleton] at q; subst q; exact h.hn hx
theorem OneP.land (h : OneP o x k (m :: D) U) (h1 : m.kind = 2) (h2 : m.key = k) : x.here = false ∧ x.k.n < m.k.n ∧ OneP o (newH m.k) k D U := by
  have hz := nM_drop1 2 k D (m := m) ⟨h1, h2⟩
  have hn := h.dn m List.mem_cons_self h1 h2
  have hp : 0 < nM 2 k (m :: D) := by omega
  have ha := h.away_of (.inr (.inl hp))
  have hg := h.gone ha
  rw [hz] at hg
  have hlt := h.lt hp
  have hf : x.here = false := by
    rcases Bool.eq_false_or_eq_true x.here with e | e
    · rw [if_pos e] at hg; omega
    · exact e
  rw [if_neg (by rw [hf]; intro e; cases e)] at hg
  refine ⟨hf, by omega, ⟨fun e => (by rw [ha] at e; cases e), fun _ => ⟨hg.1, ?_⟩, fun m' hm' e1 e2 => h.dn m' (List.mem_cons_of_mem _ hm') e1 e2, h.upn, fun _ => hn, ?_, fun e => by omega, h.lo, h.hi⟩⟩
  · rw [if_pos (show (newH m.k).here = true from rfl)]; omega
  · show m.k.n ≤ o.k.n; omega
theorem OneP.grant (h : OneP o x k D U) (ha : o.away = false) (hn : o.k.n ≠ 4294967295) : OneP (givenO o 1) x k (D ++ [⟨2, k, (givenO o 1).k, 0, 0⟩]) U := by
  have h1 := h.lo
  have h2 := h.hi
  have hw : (givenO o 1).k.n = o.k.n + 1 := wr_u32 (by omega)
  have hs := h.stay ha
  have hz := nM_add1 2 k D (m := ⟨2, k, (givenO o 1).k, 0, 0⟩) ⟨rfl, rfl⟩
  have hle := h.le
  have no2 : ∀ l : List MsV, ∀ kind, nM kind k l = 0 → ∀ m ∈ l, m.kind = kind → m.key = k → False := by
    intro l kind
    induction l with
    | nil => intro _ m hm; cases hm
    | cons y l ih =>
      intro h0 m hm e1 e2
      by_cases hy : y.kind = kind ∧ y.key = k
      · rw [nM_drop1 kind k l hy] at h0; omega
      · rw [nM_drop kind k l hy] at h0
        rcases List.mem_cons.1 hm with e | e
        · subst e; exact hy ⟨e1, e2⟩
        · exact ih h0 m e e1 e2
  refine ⟨fun e => (by cases e), fun _ => ⟨rfl, ?_⟩, ?_, fun m hm e1 e2 => (no2 U 5 hs.2.1 m hm e1 e2).elim, fun e => (by rw [hs.2.2] at e; cases e), by omega, fun _ => by omega, by omega, by omega⟩
  · rw [hz, hs.1, hs.2.1, if_neg (by rw [hs.2.2]; intro e; cases e)]
  · intro m' hm' e1 e2
    rcases List.mem_append.1 hm' with q | q
    · exact (no2 D 2 hs.1 m' q e1 e2).elim
    · rw [List.mem_singleton] at q; subst q; rfl
theorem OneP.back (h : OneP o x k D (m :: U)) (h1 : m.kind = 5) (h2 : m.key = k) : o.away = true ∧ o.dst = 1 ∧ o.k.n = m.k.n ∧ OneP (backO o) x k D U := by
  have hz := nM_drop1 5 k U (m := m) ⟨h1, h2⟩
  have hn := h.upn m List.mem_cons_self h1 h2
  have hp : 0 < nM 5 k (m :: U) := by omega
  have ha := h.away_of (.inr (.inr hp))
  have hg := h.gone ha
  rw [hz] at hg
  have hf : x.here = false := by
    rcases Bool.eq_false_or_eq_true x.here with e | e
    · rw [if_pos e] at hg; omega
    · exact e
  exact ⟨ha, hg.1, hn.symm, ⟨fun _ => ⟨by omega, by omega, hf⟩, (fun e => by cases e), h.dn, fun m' hm' e1 e2 => h.upn m' (List.mem_cons_of_mem _ hm') e1 e2, h.hn, h.le, h.lt, h.lo, h.hi⟩⟩
end
structure InvP (σ : HSt) : Prop where
  one : ∀ k ∈ keysA, ∃ o, lkt σ.a.owns k = some o ∧ OneP o ((lkt σ.b.helds k).getD held0) k σ.down σ.up
  sa : σ.a.self = 0
  na : σ.a.n = 2
  sb : σ.b.self = 1
  nb : σ.b.n = 2
  ow : ∀ k, (lkt σ.a.owns k).isSome = true → k ∈ keysA
  ob : σ.b.owns = []
  ha : σ.a.helds = []
  he : ∀ k, (lkt σ.b.helds k).isSome = true → k ∈ keysA
  nd : (σ.b.helds.map (·.1)).Nodup
  dk : ∀ m ∈ σ.down, m.key ∈ keysA ∧ (m.kind = 2 ∨ m.kind = 3 ∨ m.kind = 4)
  uk : ∀ m ∈ σ.up, m.key ∈ keysA ∧ (m.kind = 1 ∨ m.kind = 3 ∨ m.kind = 5)
theorem len_sub {α : Type} [DecidableEq α] : ∀ (l r : List α), l.Nodup → (∀ a ∈ l, a ∈ r) → l.length ≤ r.length
  | [], r, _, _ => Nat.zero_le _
  | a :: l, r, hn, hs => by
    rw [List.nodup_cons] at hn
    have hm := hs a List.mem_cons_self
    have := len_sub l (r.erase a) hn.2 (fun b hb => by
      have hne : b ≠ a := fun e => hn.1 (e ▸ hb)
      exact (List.mem_erase_of_ne hne).2 (hs b (List.mem_cons_of_mem _ hb)))
    rw [List.length_erase_of_mem hm] at this
    have hp : 0 < r.length := List.length_pos_of_mem hm
    simp only [List.length_cons]; omega
theorem keys_at {k : Kid} (h : k ∈ keysA) : ∃ i : Int, k = keyA i ∧ 0 ≤ i ∧ i ≤ 3 := by
  simp only [keysA, List.mem_cons, List.not_mem_nil, or_false] at h
  rcases h with rfl | rfl | rfl | rfl
  · exact ⟨0, rfl, by decide, by decide⟩
  · exact ⟨1, rfl, by decide, by decide⟩
  · exact ⟨2, rfl, by decide, by decide⟩
  · exact ⟨3, rfl, by decide, by decide⟩
theorem at_keys {i : Int} (h0 : 0 ≤ i) (h1 : i ≤ 3) : keyA i ∈ keysA := by
  have : i = 0 ∨ i = 1 ∨ i = 2 ∨ i = 3 := by omega
  rcases this with rfl | rfl | rfl | rfl <;> simp [keysA]
theorem key4 : keyA 4 ∉ keysA := by decide
theorem InvP.setHE {σ : HSt} (h : InvP σ) {k : Kid} (hk : k ∈ keysA) : σ.b.setHE k = 0 := by
  obtain ⟨i, rfl, h0, h1⟩ := keys_at hk
  have hb : σ.b.badK (keyA i) = false := by
    unfold BookV.badK
    rw [h.sb, h.nb]
    show (decide ((0 : Int) = 1) || (decide ((2 : Int) ≤ 0) || (decide ((1 : Int) < 1) || (decide ((9999999999 : Int) < 1) || decide (4 ≤ i))))) = false
    rw [decide_eq_false (show ¬ 4 ≤ i by omega)]; rfl
  have hl := len_sub _ keysA h.nd (fun a ha => h.he a (by
    cases e : lkt σ.b.helds a with
    | none => exact absurd ha (lkt_none.1 e)
    | some _ => rfl))
  rw [List.length_map] at hl
  have hl : σ.b.helds.length ≤ 4 := hl
  unfold BookV.setHE
  rw [hb, decide_eq_false (show ¬ 64 ≤ σ.b.helds.length by omega), Bool.and_false]; rfl
theorem InvP.setH {σ : HSt} (h : InvP σ) {k : Kid} (hk : k ∈ keysA) (x : HeldV) : σ.b.setH k x = { σ.b with helds := putt σ.b.helds k x } := by
  unfold BookV.setH; rw [h.setHE hk]; rfl
section
variable {A B : BookV} {D U D' U' : List MsV} {k : Kid}
theorem chB (h : InvP ⟨A, B, D, U⟩) (hk : k ∈ keysA) {x' : HeldV} (h1 : ∀ o, OneP o ((lkt B.helds k).getD held0) k D U → OneP o x' k D' U') (h2 : ∀ k', k' ≠ k → ∀ o x, OneP o x k' D U → OneP o x k' D' U')
    (h3 : ∀ m ∈ D', m.key ∈ keysA ∧ (m.kind = 2 ∨ m.kind = 3 ∨ m.kind = 4)) (h4 : ∀ m ∈ U', m.key ∈ keysA ∧ (m.kind = 1 ∨ m.kind = 3 ∨ m.kind = 5)) : InvP ⟨A, B.setH k x', D', U'⟩ := by
  rw [show B.setH k x' = { B with helds := putt B.helds k x' } from h.setH hk x']
  refine ⟨fun k' hk' => ?_, h.sa, h.na, h.sb, h.nb, h.ow, h.ob, h.ha, fun k' hk' => ?_, putt_nodup h.nd k x', h3, h4⟩
  · obtain ⟨o, ho, hp⟩ := h.one k' hk'
    refine ⟨o, ho, ?_⟩
    show OneP o ((lkt (putt B.helds k x') k').getD held0) k' D' U'
    rw [lkt_put]
    by_cases e : k = k'
    · subst e; rw [if_pos rfl]; exact h1 o hp
    · rw [if_neg e]; exact h2 k' (fun q => e q.symm) o _ hp
  · have hk' : (lkt (putt B.helds k x') k').isSome = true := hk'
    rw [lkt_put] at hk'
    by_cases e : k = k'
    · subst e; exact hk
    · rw [if_neg e] at hk'; exact h.he k' hk'
theorem chA (h : InvP ⟨A, B, D, U⟩) (hk : k ∈ keysA) {o o' : OwnV} (ho : lkt A.owns k = some o) (h1 : OneP o' ((lkt B.helds k).getD held0) k D' U') (h2 : ∀ k', k' ≠ k → ∀ o x, OneP o x k' D U → OneP o x k' D' U')
    (h3 : ∀ m ∈ D', m.key ∈ keysA ∧ (m.kind = 2 ∨ m.kind = 3 ∨ m.kind = 4)) (h4 : ∀ m ∈ U', m.key ∈ keysA ∧ (m.kind = 1 ∨ m.kind = 3 ∨ m.kind = 5)) : InvP ⟨A.setO k o', B, D', U'⟩ := by
  rw [setO_some ho]
  refine ⟨fun k' hk' => ?_, h.sa, h.na, h.sb, h.nb, fun k' hk' => ?_, h.ob, h.ha, h.he, h.nd, h3, h4⟩
  · show ∃ q, lkt (putt A.owns k o') k' = some q ∧ _
    rw [lkt_put]
    by_cases e : k = k'
    · subst e; rw [if_pos rfl]; exact ⟨o', rfl, h1⟩
    · rw [if_neg e]
      obtain ⟨q, hq, hp⟩ := h.one k' hk'
      exact ⟨q, hq, h2 k' (fun q => e q.symm) q _ hp⟩
  · have hk' : (lkt (putt A.owns k o') k').isSome = true := hk'
    rw [lkt_put] at hk'
    by_cases e : k = k'
    · subst e; exact hk
    · rw [if_neg e] at hk'; exact h.ow k' hk'
theorem chM (h : InvP ⟨A, B, D, U⟩) (h2 : ∀ k' o x, OneP o x k' D U → OneP o x k' D' U')
    (h3 : ∀ m ∈ D', m.key ∈ keysA ∧ (m.kind = 2 ∨ m.kind = 3 ∨ m.kind = 4)) (h4 : ∀ m ∈ U', m.key ∈ keysA ∧ (m.kind = 1 ∨ m.kind = 3 ∨ m.kind = 5)) : InvP ⟨A, B, D', U'⟩ :=
  ⟨fun k' hk' => by
    obtain ⟨q, hq, hp⟩ := h.one k' hk'
    exact ⟨q, hq, h2 k' q _ hp⟩, h.sa, h.na, h.sb, h.nb, h.ow, h.ob, h.ha, h.he, h.nd, h3, h4⟩
theorem mem_add {p : MsV → Prop} {l : List MsV} {m : MsV} (h : ∀ x ∈ l, p x) (hm : p m) : ∀ x ∈ l ++ [m], p x := fun x hx => (List.mem_append.1 hx).elim (h x) (fun e => by rw [List.mem_singleton] at e; subst e; exact hm)
end
end Go.Proofs.Ytjeppnhkgiljpaa
