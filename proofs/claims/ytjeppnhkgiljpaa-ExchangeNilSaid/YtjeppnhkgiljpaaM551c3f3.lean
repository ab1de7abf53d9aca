/- HoP2, HoP3. -/
import Derived.Test.YtjeppnhkgiljpaaM40a2b5e
section
namespace Go.Proofs.Ytjeppnhkgiljpaa
set_option maxRecDepth 100000
open Go.RowKit Go.Lib Go.Tk Go.Shelf Go.Vc Go.Sx
set_option linter.unusedVariables false
set_option linter.unusedSimpArgs false

structure OneP (o : OwnV) (x : HeldV) (k : Kid) (D U : List MsV) : Prop where
  stay : o.away = false → nM 2 k D = 0 ∧ nM 5 k U = 0 ∧ x.here = false
  gone : o.away = true → o.dst = 1 ∧ nM 2 k D + nM 5 k U + (if x.here = true then 1 else 0) = 1
  dn : ∀ m ∈ D, m.kind = 2 → m.key = k → m.k.n = o.k.n
  upn : ∀ m ∈ U, m.kind = 5 → m.key = k → m.k.n = o.k.n
  hn : x.here = true → x.k.n = o.k.n
  le : x.k.n ≤ o.k.n
  lt : 0 < nM 2 k D → x.k.n < o.k.n
  lo : 0 ≤ o.k.n
  hi : o.k.n ≤ 4294967295
theorem nM_add (kind : Int) (k : Kid) (l : List MsV) {m : MsV} (hm : ¬(m.kind = kind ∧ m.key = k)) : nM kind k (l ++ [m]) = nM kind k l := by
  rw [nM_append]; show _ + ((if _ then 1 else 0) + 0) = _; rw [if_neg hm]; rfl
theorem nM_add1 (kind : Int) (k : Kid) (l : List MsV) {m : MsV} (hm : m.kind = kind ∧ m.key = k) : nM kind k (l ++ [m]) = nM kind k l + 1 := by
  rw [nM_append]; show _ + ((if _ then 1 else 0) + 0) = _; rw [if_pos hm]
theorem nM_drop (kind : Int) (k : Kid) (l : List MsV) {m : MsV} (hm : ¬(m.kind = kind ∧ m.key = k)) : nM kind k (m :: l) = nM kind k l := by
  show (if _ then 1 else 0) + _ = _; rw [if_neg hm, Nat.zero_add]
theorem nM_drop1 (kind : Int) (k : Kid) (l : List MsV) {m : MsV} (hm : m.kind = kind ∧ m.key = k) : nM kind k (m :: l) = nM kind k l + 1 := by
  show (if _ then 1 else 0) + _ = _; rw [if_pos hm]; omega
section
variable {o : OwnV} {x : HeldV} {k : Kid} {D U : List MsV} {m : MsV}
theorem OneP.addD (h : OneP o x k D U) (hm : ¬(m.kind = 2 ∧ m.key = k)) : OneP o x k (D ++ [m]) U := by
  have hz := nM_add 2 k D hm
  exact ⟨by rw [hz]; exact h.stay, by rw [hz]; exact h.gone, fun m' hm' e1 e2 => (List.mem_append.1 hm').elim (fun q => h.dn m' q e1 e2) (fun q => by rw [List.mem_singleton] at q; subst q; exact absurd ⟨e1, e2⟩ hm), h.upn, h.hn, h.le, by rw [hz]; exact h.lt, h.lo, h.hi⟩
theorem OneP.addU (h : OneP o x k D U) (hm : ¬(m.kind = 5 ∧ m.key = k)) : OneP o x k D (U ++ [m]) := by
  have hz := nM_add 5 k U hm
  exact ⟨by rw [hz]; exact h.stay, by rw [hz]; exact h.gone, h.dn, fun m' hm' e1 e2 => (List.mem_append.1 hm').elim (fun q => h.upn m' q e1 e2) (fun q => by rw [List.mem_singleton] at q; subst q; exact absurd ⟨e1, e2⟩ hm), h.hn, h.le, h.lt, h.lo, h.hi⟩
theorem OneP.dropD (h : OneP o x k (m :: D) U) (hm : ¬(m.kind = 2 ∧ m.key = k)) : OneP o x k D U := by
  have hz := nM_drop 2 k D hm
  exact ⟨by rw [← hz]; exact h.stay, by rw [← hz]; exact h.gone, fun m' hm' e1 e2 => h.dn m' (List.mem_cons_of_mem _ hm') e1 e2, h.upn, h.hn, h.le, by rw [← hz]; exact h.lt, h.lo, h.hi⟩
theorem OneP.dropU (h : OneP o x k D (m :: U)) (hm : ¬(m.kind = 5 ∧ m.key = k)) : OneP o x k D U := by
  have hz := nM_drop 5 k U hm
  exact ⟨by rw [← hz]; exact h.stay, by rw [← hz]; exact h.gone, h.dn, fun m' hm' e1 e2 => h.upn m' (List.mem_cons_of_mem _ hm') e1 e2, h.hn, h.le, h.lt, h.lo, h.hi⟩
theorem OneP.own {o' : OwnV} (h : OneP o x k D U) (h1 : o'.away = o.away) (h2 : o'.dst = o.dst) (h3 : o'.k = o.k) : OneP o' x k D U :=
  ⟨by rw [h1]; exact h.stay, by rw [h1, h2]; exact h.gone, by rw [h3]; exact h.dn, by rw [h3]; exact h.upn, by rw [h3]; exact h.hn, by rw [h3]; exact h.le, by rw [h3]; exact h.lt, by rw [h3]; exact h.lo, by rw [h3]; exact h.hi⟩
theorem OneP.held {x' : HeldV} (h : OneP o x k D U) (h1 : x'.here = x.here) (h2 : x'.k = x.k) : OneP o x' k D U :=
  ⟨by rw [h1]; exact h.stay, by rw [h1]; exact h.gone, h.dn, h.upn, by rw [h1, h2]; exact h.hn, by rw [h2]; exact h.le, by rw [h2]; exact h.lt, h.lo, h.hi⟩
theorem OneP.away_of (h : OneP o x k D U) (h1 : x.here = true ∨ 0 < nM 2 k D ∨ 0 < nM 5 k U) : o.away = true := by
  rcases Bool.eq_false_or_eq_true o.away with e | e
  · exact e
  · have := h.stay e
    rcases h1 with h1 | h1 | h1
    · rw [this.2.2] at h1; cases h1
    · omega
    · omega
theorem OneP.give (h : OneP o x k D U) (hx : x.here = true) : OneP o (goneH x) k D (U ++ [⟨5, k, x.k, 0, 0⟩]) := by
  have ha := h.away_of (.inl hx)
  have hg := h.gone ha
  rw [if_pos hx] at hg
  have hz := nM_add1 5 k U (m := ⟨5, k, x.k, 0, 0⟩) ⟨rfl, rfl⟩
  refine ⟨fun e => (by rw [ha] at e; cases e), fun _ => ⟨hg.1, ?_⟩, h.dn, ?_, fun e => (by cases e), h.le, h.lt, h.lo, h.hi⟩
  · rw [hz, if_neg (by intro e; cases e)]; omega
  · intro m' hm' e1 e2
    rcases List.mem_append.1 hm' with q | q
    · exact h.upn m' q e1 e2
    · rw [List.mem_singleton] at q; subst q; exact h.hn hx
theorem OneP.land (h : OneP o x k (m :: D) U) (h1 : m.kind = 2) (h2 : m.key = k) : x.here = false ∧ x.k.n < m.k.n ∧ OneP o (newH m.k) k D U := by
  have hz := nM_drop1 2 k D (m := m) ⟨h1, h2⟩
  have hn := h.dn m List.mem_cons_self h1 h2
  have hp : 0 < nM 2 k (m :: D) := by omega
  have ha := h.away_of (.inr (.inl hp))
  have hg := h.gone ha
  rw [hz] at hg
  have hlt := h.lt hp
  have hf : x.here = false := by
    rcases Bool.eq_false_or_eq_true x.here with e | e
    · rw [if_pos e] at hg; omega
    · exact e
  rw [if_neg (by rw [hf]; intro e; cases e)] at hg
  refine ⟨hf, by omega, ⟨fun e => (by rw [ha] at e; cases e), fun _ => ⟨hg.1, ?_⟩, fun m' hm' e1 e2 => h.dn m' (List.mem_cons_of_mem _ hm') e1 e2, h.upn, fun _ => hn, ?_, fun e => by omega, h.lo, h.hi⟩⟩
  · rw [if_pos (show (newH m.k).here = true from rfl)]; omega
  · show m.k.n ≤ o.k.n; omega
theorem OneP.grant (h : OneP o x k D U) (ha : o.away = false) (hn : o.k.n ≠ 4294967295) : OneP (givenO o 1) x k (D ++ [⟨2, k, (givenO o 1).k, 0, 0⟩]) U := by
  have h1 := h.lo
  have h2 := h.hi
  have hw : (givenO o 1).k.n = o.k.n + 1 := wr_u32 (by omega)
  have hs := h.stay ha
  have hz := nM_add1 2 k D (m := ⟨2, k, (givenO o 1).k, 0, 0⟩) ⟨rfl, rfl⟩
  have hle := h.le
  have no2 : ∀ l : List MsV, ∀ kind, nM kind k l = 0 → ∀ m ∈ l, m.kind = kind → m.key = k → False := by
    intro l kind
    induction l with
    | nil => intro _ m hm; cases hm
    | cons y l ih =>
      intro h0 m hm e1 e2
      by_cases hy : y.kind = kind ∧ y.key = k
      · rw [nM_drop1 kind k l hy] at h0; omega
      · rw [nM_drop kind k l hy] at h0
        rcases List.mem_cons.1 hm with e | e
        · subst e; exact hy ⟨e1, e2⟩
        · exact ih h0 m e e1 e2
  refine ⟨fun e => (by cases e), fun _ => ⟨rfl, ?_⟩, ?_, fun m hm e1 e2 => (no2 U 5 hs.2.1 m hm e1 e2).elim, fun e => (by rw [hs.2.2] at e; cases e), by omega, fun _ => by omega, by omega, by omega⟩
  · rw [hz, hs.1, hs.2.1, if_neg (by rw [hs.2.2]; intro e; cases e)]
  · intro m' hm' e1 e2
    rcases List.mem_append.1 hm' with q | q
    · exact (no2 D 2 hs.1 m' q e1 e2).elim
    · rw [List.mem_singleton] at q; subst q; rfl
theorem OneP.back (h : OneP o x k D (m :: U)) (h1 : m.kind = 5) (h2 : m.key = k) : o.away = true ∧ o.dst = 1 ∧ o.k.n = m.k.n ∧ OneP (backO o) x k D U := by
  have hz := nM_drop1 5 k U (m := m) ⟨h1, h2⟩
  have hn := h.upn m List.mem_cons_self h1 h2
  have hp : 0 < nM 5 k (m :: U) := by omega
  have ha := h.away_of (.inr (.inr hp))
  have hg := h.gone ha
  rw [hz] at hg
  have hf : x.here = false := by
    rcases Bool.eq_false_or_eq_true x.here with e | e
    · rw [if_pos e] at hg; omega
    · exact e
  exact ⟨ha, hg.1, hn.symm, ⟨fun _ => ⟨by omega, by omega, hf⟩, (fun e => by cases e), h.dn, fun m' hm' e1 e2 => h.upn m' (List.mem_cons_of_mem _ hm') e1 e2, h.hn, h.le, h.lt, h.lo, h.hi⟩⟩
end
structure InvP (σ : HSt) : Prop where
  one : ∀ k ∈ keysA, ∃ o, lkt σ.a.owns k = some o ∧ OneP o ((lkt σ.b.helds k).getD held0) k σ.down σ.up
  sa : σ.a.self = 0
  na : σ.a.n = 2
  sb : σ.b.self = 1
  nb : σ.b.n = 2
  ow : ∀ k, (lkt σ.a.owns k).isSome = true → k ∈ keysA
  ob : σ.b.owns = []
  ha : σ.a.helds = []
  he : ∀ k, (lkt σ.b.helds k).isSome = true → k ∈ keysA
  nd : (σ.b.helds.map (·.1)).Nodup
  dk : ∀ m ∈ σ.down, m.key ∈ keysA ∧ (m.kind = 2 ∨ m.kind = 3 ∨ m.kind = 4)
  uk : ∀ m ∈ σ.up, m.key ∈ keysA ∧ (m.kind = 1 ∨ m.kind = 3 ∨ m.kind = 5)
theorem len_sub {α : Type} [DecidableEq α] : ∀ (l r : List α), l.Nodup → (∀ a ∈ l, a ∈ r) → l.length ≤ r.length
  | [], r, _, _ => Nat.zero_le _
  | a :: l, r, hn, hs => by
    rw [List.nodup_cons] at hn
    have hm := hs a List.mem_cons_self
    have := len_sub l (r.erase a) hn.2 (fun b hb => by
      have hne : b ≠ a := fun e => hn.1 (e ▸ hb)
      exact (List.mem_erase_of_ne hne).2 (hs b (List.mem_cons_of_mem _ hb)))
    rw [List.length_erase_of_mem hm] at this
    have hp : 0 < r.length := List.length_pos_of_mem hm
    simp only [List.length_cons]; omega
theorem keys_at {k : Kid} (h : k ∈ keysA) : ∃ i : Int, k = keyA i ∧ 0 ≤ i ∧ i ≤ 3 := by
  simp only [keysA, List.mem_cons, List.not_mem_nil, or_false] at h
  rcases h with rfl | rfl | rfl | rfl
  · exact ⟨0, rfl, by decide, by decide⟩
  · exact ⟨1, rfl, by decide, by decide⟩
  · exact ⟨2, rfl, by decide, by decide⟩
  · exact ⟨3, rfl, by decide, by decide⟩
theorem at_keys {i : Int} (h0 : 0 ≤ i) (h1 : i ≤ 3) : keyA i ∈ keysA := by
  have : i = 0 ∨ i = 1 ∨ i = 2 ∨ i = 3 := by omega
  rcases this with rfl | rfl | rfl | rfl <;> simp [keysA]
theorem key4 : keyA 4 ∉ keysA := by decide
theorem InvP.setHE {σ : HSt} (h : InvP σ) {k : Kid} (hk : k ∈ keysA) : σ.b.setHE k = 0 := by
  obtain ⟨i, rfl, h0, h1⟩ := keys_at hk
  have hb : σ.b.badK (keyA i) = false := by
    unfold BookV.badK
    rw [h.sb, h.nb]
    show (decide ((0 : Int) = 1) || (decide ((2 : Int) ≤ 0) || (decide ((1 : Int) < 1) || (decide ((9999999999 : Int) < 1) || decide (4 ≤ i))))) = false
    rw [decide_eq_false (show ¬ 4 ≤ i by omega)]; rfl
  have hl := len_sub _ keysA h.nd (fun a ha => h.he a (by
    cases e : lkt σ.b.helds a with
    | none => exact absurd ha (lkt_none.1 e)
    | some _ => rfl))
  rw [List.length_map] at hl
  have hl : σ.b.helds.length ≤ 4 := hl
  unfold BookV.setHE
  rw [hb, decide_eq_false (show ¬ 64 ≤ σ.b.helds.length by omega), Bool.and_false]; rfl
theorem InvP.setH {σ : HSt} (h : InvP σ) {k : Kid} (hk : k ∈ keysA) (x : HeldV) : σ.b.setH k x = { σ.b with helds := putt σ.b.helds k x } := by
  unfold BookV.setH; rw [h.setHE hk]; rfl
section
variable {A B : BookV} {D U D' U' : List MsV} {k : Kid}
theorem chB (h : InvP ⟨A, B, D, U⟩) (hk : k ∈ keysA) {x' : HeldV} (h1 : ∀ o, OneP o ((lkt B.helds k).getD held0) k D U → OneP o x' k D' U') (h2 : ∀ k', k' ≠ k → ∀ o x, OneP o x k' D U → OneP o x k' D' U')
    (h3 : ∀ m ∈ D', m.key ∈ keysA ∧ (m.kind = 2 ∨ m.kind = 3 ∨ m.kind = 4)) (h4 : ∀ m ∈ U', m.key ∈ keysA ∧ (m.kind = 1 ∨ m.kind = 3 ∨ m.kind = 5)) : InvP ⟨A, B.setH k x', D', U'⟩ := by
  rw [show B.setH k x' = { B with helds := putt B.helds k x' } from h.setH hk x']
  refine ⟨fun k' hk' => ?_, h.sa, h.na, h.sb, h.nb, h.ow, h.ob, h.ha, fun k' hk' => ?_, putt_nodup h.nd k x', h3, h4⟩
  · obtain ⟨o, ho, hp⟩ := h.one k' hk'
    refine ⟨o, ho, ?_⟩
    show OneP o ((lkt (putt B.helds k x') k').getD held0) k' D' U'
    rw [lkt_put]
    by_cases e : k = k'
    · subst e; rw [if_pos rfl]; exact h1 o hp
    · rw [if_neg e]; exact h2 k' (fun q => e q.symm) o _ hp
  · have hk' : (lkt (putt B.helds k x') k').isSome = true := hk'
    rw [lkt_put] at hk'
    by_cases e : k = k'
    · subst e; exact hk
    · rw [if_neg e] at hk'; exact h.he k' hk'
theorem chA (h : InvP ⟨A, B, D, U⟩) (hk : k ∈ keysA) {o o' : OwnV} (ho : lkt A.owns k = some o) (h1 : OneP o' ((lkt B.helds k).getD held0) k D' U') (h2 : ∀ k', k' ≠ k → ∀ o x, OneP o x k' D U → OneP o x k' D' U')
    (h3 : ∀ m ∈ D', m.key ∈ keysA ∧ (m.kind = 2 ∨ m.kind = 3 ∨ m.kind = 4)) (h4 : ∀ m ∈ U', m.key ∈ keysA ∧ (m.kind = 1 ∨ m.kind = 3 ∨ m.kind = 5)) : InvP ⟨A.setO k o', B, D', U'⟩ := by
  rw [setO_some ho]
  refine ⟨fun k' hk' => ?_, h.sa, h.na, h.sb, h.nb, fun k' hk' => ?_, h.ob, h.ha, h.he, h.nd, h3, h4⟩
  · show ∃ q, lkt (putt A.owns k o') k' = some q ∧ _
    rw [lkt_put]
    by_cases e : k = k'
    · subst e; rw [if_pos rfl]; exact ⟨o', rfl, h1⟩
    · rw [if_neg e]
      obtain ⟨q, hq, hp⟩ := h.one k' hk'
      exact ⟨q, hq, h2 k' (fun q => e q.symm) q _ hp⟩
  · have hk' : (lkt (putt A.owns k o') k').isSome = true := hk'
    rw [lkt_put] at hk'
    by_cases e : k = k'
    · subst e; exact hk
    · rw [if_neg e] at hk'; exact h.ow k' hk'
theorem chM (h : InvP ⟨A, B, D, U⟩) (h2 : ∀ k' o x, OneP o x k' D U → OneP o x k' D' U')
    (h3 : ∀ m ∈ D', m.key ∈ keysA ∧ (m.kind = 2 ∨ m.kind = 3 ∨ m.kind = 4)) (h4 : ∀ m ∈ U', m.key ∈ keysA ∧ (m.kind = 1 ∨ m.kind = 3 ∨ m.kind = 5)) : InvP ⟨A, B, D', U'⟩ :=
  ⟨fun k' hk' => by
    obtain ⟨q, hq, hp⟩ := h.one k' hk'
    exact ⟨q, hq, h2 k' q _ hp⟩, h.sa, h.na, h.sb, h.nb, h.ow, h.ob, h.ha, h.he, h.nd, h3, h4⟩
theorem mem_add {p : MsV → Prop} {l : List MsV} {m : MsV} (h : ∀ x ∈ l, p x) (hm : p m) : ∀ x ∈ l ++ [m], p x := fun x hx => (List.mem_append.1 hx).elim (h x) (fun e => by rw [List.mem_singleton] at e; subst e; exact hm)
end
end Go.Proofs.Ytjeppnhkgiljpaa
end
section
namespace Go.Proofs.Ytjeppnhkgiljpaa
set_option maxRecDepth 100000
open Go.RowKit Go.Lib Go.Tk Go.Shelf Go.Vc Go.Sx
set_option linter.unusedVariables false
set_option linter.unusedSimpArgs false

section
variable {A B : BookV} {D U : List MsV}
/-- told by none, or by one to tw -/
def OutTo (out : List OutV) (tw : Int) : Prop := out = [] ∨ ∃ x, out = [x] ∧ x.dst = tw
theorem key_cases {j : Int} (h0 : 0 ≤ j) (h1 : j ≤ 4) : keyA j ∈ keysA ∨ j = 4 := by
  by_cases h : j = 4
  · exact .inr h
  · exact .inl (at_keys h0 (by omega))
theorem no_key (k k' : Kid) (m : MsV) (kind : Int) (h : k' ≠ k) (hm : m.key = k) : ¬(m.kind = kind ∧ m.key = k') := fun e => h (by rw [← e.2, hm])
theorem no_kind (k' : Kid) (m : MsV) (kind : Int) (h : m.kind ≠ kind) : ¬(m.kind = kind ∧ m.key = k') := fun e => h e.1
theorem want_4 (h : InvP ⟨A, B, D, U⟩) : wantQ B (keyA 4) = ⟨[], 1, B⟩ := by
  have hn : (lkt B.helds (keyA 4)).isSome = false := by
    rcases Bool.eq_false_or_eq_true (lkt B.helds (keyA 4)).isSome with e | e
    · exact absurd (h.he _ e) key4
    · exact e
  have hb : B.badK (keyA 4) = true := by
    unfold BookV.badK
    rw [show B.self = 1 from h.sb, show B.n = 2 from h.nb]; rfl
  have hs : B.setHE (keyA 4) = 1 := by unfold BookV.setHE; rw [hb]; rfl
  unfold wantQ
  rw [hn, hs]; rfl
theorem want_k (h : InvP ⟨A, B, D, U⟩) {k : Kid} (hk : k ∈ keysA) (h0 : k.t.c = 0) : InvP ⟨A, (wantQ B k).b, D, U ++ outsM (wantQ B k).out⟩ ∧ OutTo (wantQ B k).out 0 := by
  rcases Bool.eq_false_or_eq_true ((lkt B.helds k).isSome && (((lkt B.helds k).getD held0).here || ((lkt B.helds k).getD held0).wanted)) with e | e
  · have hw : wantQ B k = ⟨[], 6, B⟩ := by unfold wantQ; rw [e]; rfl
    rw [hw]
    exact ⟨by show InvP ⟨A, B, D, U ++ []⟩; rw [List.append_nil]; exact h, .inl rfl⟩
  · have hs : B.setHE k = 0 := h.setHE hk
    have hw : wantQ B k = ⟨[⟨k.t.c, ⟨1, k, cpn0, 0, 0⟩⟩], 0, B.setH k (wantH ((lkt B.helds k).getD held0))⟩ := by unfold wantQ; rw [e, hs]; rfl
    rw [hw]
    refine ⟨?_, .inr ⟨_, rfl, h0⟩⟩
    show InvP ⟨A, B.setH k _, D, U ++ [⟨1, k, cpn0, 0, 0⟩]⟩
    exact chB h hk (fun o p => (p.held (x' := wantH ((lkt B.helds k).getD held0)) rfl rfl).addU (no_kind _ ⟨1, k, cpn0, 0, 0⟩ _ (by show (1 : Int) ≠ 5; decide))) (fun k' hn o x p => p.addU (no_kind _ ⟨1, k, cpn0, 0, 0⟩ _ (by show (1 : Int) ≠ 5; decide))) h.dk (mem_add h.uk ⟨hk, .inl rfl⟩)
/-- what is here is handed back -/
theorem give_k (h : InvP ⟨A, B, D, U⟩) {k : Kid} (hk : k ∈ keysA) (hx : ((lkt B.helds k).getD held0).here = true) : InvP ⟨A, B.setH k (goneH ((lkt B.helds k).getD held0)), D, U ++ [⟨5, k, ((lkt B.helds k).getD held0).k, 0, 0⟩]⟩ :=
  chB h hk (fun o p => p.give hx) (fun k' hn o x p => p.addU (no_key k _ _ _ hn rfl)) h.dk (mem_add h.uk ⟨hk, .inr (.inr rfl)⟩)
theorem return_4 (h : InvP ⟨A, B, D, U⟩) : returnQ B (keyA 4) = ⟨[], 4, B⟩ := by
  have hn : (lkt B.helds (keyA 4)).isSome = false := by
    rcases Bool.eq_false_or_eq_true (lkt B.helds (keyA 4)).isSome with e | e
    · exact absurd (h.he _ e) key4
    · exact e
  unfold returnQ
  rw [hn]; rfl
theorem return_k (h : InvP ⟨A, B, D, U⟩) {k : Kid} (hk : k ∈ keysA) (h0 : k.t.c = 0) : InvP ⟨A, (returnQ B k).b, D, U ++ outsM (returnQ B k).out⟩ ∧ OutTo (returnQ B k).out 0 := by
  have no : ∀ e, returnQ B k = ⟨[], e, B⟩ → InvP ⟨A, (returnQ B k).b, D, U ++ outsM (returnQ B k).out⟩ ∧ OutTo (returnQ B k).out 0 := fun e hw => by
    rw [hw]
    exact ⟨by show InvP ⟨A, B, D, U ++ []⟩; rw [List.append_nil]; exact h, .inl rfl⟩
  rcases Bool.eq_false_or_eq_true (lkt B.helds k).isSome with e | e
  · rcases Bool.eq_false_or_eq_true ((lkt B.helds k).getD held0).here with e2 | e2
    · rcases Bool.eq_false_or_eq_true (decide (((lkt B.helds k).getD held0).k.s = 1)) with e3 | e3
      · have hw : returnQ B k = ⟨[giveO k ((lkt B.helds k).getD held0)], 0, B.setH k (goneH ((lkt B.helds k).getD held0))⟩ := by unfold returnQ; rw [e, e2, e3]; rfl
        rw [hw]
        exact ⟨give_k h hk e2, .inr ⟨_, rfl, h0⟩⟩
      · exact no 6 (by unfold returnQ; rw [e, e2, e3]; rfl)
    · exact no 160 (by unfold returnQ; rw [e, e2]; rfl)
  · exact no 4 (by unfold returnQ; rw [e]; rfl)
theorem recall_4 (h : InvP ⟨A, B, D, U⟩) : recallQ A (keyA 4) = ⟨[], 4, A⟩ := by
  have hn : (lkt A.owns (keyA 4)).isSome = false := by
    rcases Bool.eq_false_or_eq_true (lkt A.owns (keyA 4)).isSome with e | e
    · exact absurd (h.ow _ e) key4
    · exact e
  unfold recallQ
  rw [hn]; rfl
theorem recall_k (h : InvP ⟨A, B, D, U⟩) {k : Kid} (hk : k ∈ keysA) : InvP ⟨(recallQ A k).b, B, D ++ outsM (recallQ A k).out, U⟩ ∧ OutTo (recallQ A k).out 1 := by
  obtain ⟨o, ho, hp⟩ := h.one k hk
  have ho : lkt A.owns k = some o := ho
  rcases Bool.eq_false_or_eq_true (!o.away || (o.paid || o.asked)) with e | e
  · have hw : recallQ A k = ⟨[], 6, A⟩ := by unfold recallQ; simp only [ho, Option.getD_some, e]; rfl
    rw [hw]
    exact ⟨by show InvP ⟨A, B, D ++ [], U⟩; rw [List.append_nil]; exact h, .inl rfl⟩
  · have hw : recallQ A k = ⟨[⟨o.dst, ⟨4, k, cpn0, 0, 0⟩⟩], 0, A.setO k (askO o)⟩ := by unfold recallQ; simp only [ho, Option.getD_some, e]; rfl
    have ha : o.away = true := by
      rcases Bool.eq_false_or_eq_true o.away with q | q
      · exact q
      · rw [q] at e; cases e
    rw [hw]
    exact ⟨chA h hk ho ((hp.own (o' := askO o) rfl rfl rfl).addD (no_kind _ ⟨4, k, cpn0, 0, 0⟩ _ (by show (4 : Int) ≠ 2; decide))) (fun k' hn o x p => p.addD (no_kind _ ⟨4, k, cpn0, 0, 0⟩ _ (by show (4 : Int) ≠ 2; decide))) (mem_add h.dk ⟨hk, .inr (.inr rfl)⟩) h.uk, .inr ⟨_, rfl, (hp.gone ha).1⟩⟩
theorem tail_of {p : MsV → Prop} {m : MsV} {l : List MsV} (h : ∀ x ∈ m :: l, p x) : ∀ x ∈ l, p x := fun x hx => h x (List.mem_cons_of_mem _ hx)
theorem dropD_k {m : MsV} (h : InvP ⟨A, B, m :: D, U⟩) (hm : m.kind ≠ 2) : InvP ⟨A, B, D, U⟩ := chM h (fun k' o x p => p.dropD (no_kind _ _ _ hm)) (tail_of h.dk) h.uk
theorem dropU_k {m : MsV} (h : InvP ⟨A, B, D, m :: U⟩) (hm : m.kind ≠ 5) : InvP ⟨A, B, D, U⟩ := chM h (fun k' o x p => p.dropU (no_kind _ _ _ hm)) h.dk (tail_of h.uk)
theorem isAway_nil {c : Int} {k : Kid} (h : B.owns = []) : isAway B c k = false := by unfold isAway; rw [h]; rfl
theorem isHeld_nil {c : Int} {k : Kid} (h : B.helds = []) : isHeld B c k = false := by unfold isHeld; rw [h]; rfl
theorem app_nil : InvP ⟨A, B, D, U⟩ → InvP ⟨A, B, D, U ++ outsM []⟩ := fun h => by rw [show outsM [] = [] from rfl, List.append_nil]; exact h
theorem app_nilD : InvP ⟨A, B, D, U⟩ → InvP ⟨A, B, D ++ outsM [], U⟩ := fun h => by rw [show outsM [] = [] from rfl, List.append_nil]; exact h
theorem hearD_k {m : MsV} (h : InvP ⟨A, B, m :: D, U⟩) : InvP ⟨A, (hearQ B 0 m).b, D, U ++ outsM (hearQ B 0 m).out⟩ ∧ (hearQ B 0 m).e = 0 ∧ OutTo (hearQ B 0 m).out 0 := by
  obtain ⟨hk, kinds⟩ := h.dk m List.mem_cons_self
  obtain ⟨i, hi, -, -⟩ := keys_at hk
  have hc : m.key.t.c = 0 := by rw [hi]; rfl
  have hbad : badHear B 0 m.kind = false := by
    unfold badHear
    rw [show B.self = 1 from h.sb, show B.n = 2 from h.nb]
    rcases kinds with e | e | e <;> rw [e] <;> rfl
  have hq : hearQ B 0 m = hearDo B 0 m := by unfold hearQ; rw [hbad]; rfl
  rw [hq]
  have hob : B.owns = [] := h.ob
  rcases kinds with e | e | e
  · have hd : hearDo B 0 m = ⟨[], (hgrantQ B 0 m).e, (hgrantQ B 0 m).b⟩ := by unfold hearDo; rw [e]; rfl
    rw [hd]
    obtain ⟨o, ho, hp⟩ := h.one m.key hk
    obtain ⟨l1, l2, -⟩ := hp.land e rfl
    have l1 : ((lkt B.helds m.key).getD held0).here = false := l1
    have l2 : ((lkt B.helds m.key).getD held0).k.n < m.k.n := l2
    have hg : hgrantQ B 0 m = ⟨[], 0, B.setH m.key (newH m.k)⟩ := by
      unfold hgrantQ
      simp only [l1, hc, show B.setHE m.key = 0 from h.setHE hk, decide_eq_false (show ¬ m.k.n ≤ ((lkt B.helds m.key).getD held0).k.n by omega), Bool.or_false, Bool.and_false]
      rfl
    rw [hg]
    exact ⟨app_nil (chB h hk (fun o p => (p.land e rfl).2.2) (fun k' hn o x p => p.dropD (no_key _ _ _ _ hn rfl)) (tail_of h.dk) h.uk), rfl, .inl rfl⟩
  · have hd : hearDo B 0 m = ⟨[], 0, hrefB B 0 m.key⟩ := by unfold hearDo; rw [e]; rfl
    rw [hd]
    have hr : hrefB B 0 m.key = hrefH B 0 m.key := by
      have ho : (hrefH B 0 m.key).owns = [] := by
        unfold hrefH
        cases isHeld B 0 m.key
        · exact hob
        · show (B.setH _ _).owns = []; rw [show B.setH m.key _ = _ from h.setH hk _]; exact hob
      unfold hrefB; rw [isAway_nil ho]; rfl
    rw [hr]
    have h' := dropD_k h (by rw [e]; decide)
    refine ⟨app_nil ?_, rfl, .inl rfl⟩
    unfold hrefH
    cases isHeld B 0 m.key
    · exact h'
    · exact chB h' hk (fun o p => p.held (x' := notH ((lkt B.helds m.key).getD held0)) rfl rfl) (fun k' hn o x p => p) h'.dk h'.uk
  · have hd : hearDo B 0 m = hrecallQ B 0 m.key := by unfold hearDo; rw [e]; rfl
    rw [hd]
    have h' := dropD_k h (by rw [e]; decide)
    rcases Bool.eq_false_or_eq_true (!isHeld B 0 m.key || !((lkt B.helds m.key).getD held0).here) with e1 | e1
    · have hw : hrecallQ B 0 m.key = ⟨[], 0, B⟩ := by unfold hrecallQ; simp only [e1]; rfl
      rw [hw]
      exact ⟨app_nil h', rfl, .inl rfl⟩
    · have hx : ((lkt B.helds m.key).getD held0).here = true := by
        rcases Bool.eq_false_or_eq_true ((lkt B.helds m.key).getD held0).here with q | q
        · exact q
        · rw [q] at e1; simp at e1
      rcases Bool.eq_false_or_eq_true (decide (((lkt B.helds m.key).getD held0).k.s = 1)) with e3 | e3
      · have hw : hrecallQ B 0 m.key = ⟨[giveO m.key ((lkt B.helds m.key).getD held0)], 0, B.setH m.key (goneH ((lkt B.helds m.key).getD held0))⟩ := by unfold hrecallQ; simp only [e1, e3]; rfl
        rw [hw]
        exact ⟨give_k h' hk hx, rfl, .inr ⟨_, rfl, hc⟩⟩
      · have hw : hrecallQ B 0 m.key = ⟨[refO 0 m.key 6], 0, B⟩ := by unfold hrecallQ; simp only [e1, e3]; rfl
        rw [hw]
        exact ⟨chM h' (fun k' o x p => p.addU (no_kind _ ⟨3, m.key, cpn0, 0, 6⟩ _ (by show (3 : Int) ≠ 5; decide))) h'.dk (mem_add h'.uk ⟨hk, .inr (.inl rfl)⟩), rfl, .inr ⟨_, rfl, rfl⟩⟩
theorem hearU_k {m : MsV} (h : InvP ⟨A, B, D, m :: U⟩) : InvP ⟨(hearQ A 1 m).b, B, D ++ outsM (hearQ A 1 m).out, U⟩ ∧ (hearQ A 1 m).e = 0 ∧ OutTo (hearQ A 1 m).out 1 := by
  obtain ⟨hk, kinds⟩ := h.uk m List.mem_cons_self
  obtain ⟨i, hi, -, -⟩ := keys_at hk
  have hbad : badHear A 1 m.kind = false := by
    unfold badHear
    rw [show A.self = 0 from h.sa, show A.n = 2 from h.na]
    rcases kinds with e | e | e <;> rw [e] <;> rfl
  have hq : hearQ A 1 m = hearDo A 1 m := by unfold hearQ; rw [hbad]; rfl
  rw [hq]
  have hha : A.helds = [] := h.ha
  obtain ⟨o, ho, hp⟩ := h.one m.key hk
  have ho : lkt A.owns m.key = some o := ho
  rcases kinds with e | e | e
  · have hd : hearDo A 1 m = hwantQ A 1 m.key := by unfold hearDo; rw [e]; rfl
    rw [hd]
    have h' := dropU_k h (by rw [e]; decide)
    have hp' := hp.dropU (no_kind _ _ _ (by rw [e]; decide))
    have ref : ∀ c, hwantQ A 1 m.key = ⟨[refO 1 m.key c], 0, A⟩ → InvP ⟨(hwantQ A 1 m.key).b, B, D ++ outsM (hwantQ A 1 m.key).out, U⟩ ∧ (hwantQ A 1 m.key).e = 0 ∧ OutTo (hwantQ A 1 m.key).out 1 := fun c hw => by
      rw [hw]
      exact ⟨chM h' (fun k' o x p => p.addD (no_kind _ ⟨3, m.key, cpn0, 0, c⟩ _ (by show (3 : Int) ≠ 2; decide))) (mem_add h'.dk ⟨hk, .inr (.inl rfl)⟩) h'.uk, rfl, .inr ⟨_, rfl, rfl⟩⟩
    have hs : (lkt A.owns m.key).isSome = true := by rw [ho]; rfl
    rcases Bool.eq_false_or_eq_true o.away with a1 | a1
    · exact ref 160 (by unfold hwantQ; simp only [ho, Option.getD_some, a1]; rfl)
    rcases Bool.eq_false_or_eq_true (decide (o.k.l.c = 1)) with a2 | a2
    · rcases Bool.eq_false_or_eq_true (decide (o.k.s = 1)) with a3 | a3
      · rcases Bool.eq_false_or_eq_true (decide (o.k.n = 4294967295)) with a4 | a4
        · exact ref 3 (by unfold hwantQ; simp only [ho, Option.getD_some, a1, a2, a3, a4]; rfl)
        · have hw : hwantQ A 1 m.key = ⟨[⟨1, ⟨2, m.key, (givenO o 1).k, 0, 0⟩⟩], 0, A.setO m.key (givenO o 1)⟩ := by unfold hwantQ; simp only [ho, Option.getD_some, a1, a2, a3, a4]; rfl
          rw [hw]
          exact ⟨chA h' hk ho (hp'.grant a1 (of_decide_eq_false a4)) (fun k' hn o x p => p.addD (no_key m.key _ _ _ hn rfl)) (mem_add h'.dk ⟨hk, .inl rfl⟩) h'.uk, rfl, .inr ⟨_, rfl, rfl⟩⟩
      · exact ref 6 (by unfold hwantQ; simp only [ho, Option.getD_some, a1, a2, a3]; rfl)
    · exact ref 1 (by unfold hwantQ; simp only [ho, Option.getD_some, a1, a2]; rfl)
  · have hd : hearDo A 1 m = ⟨[], 0, hrefB A 1 m.key⟩ := by unfold hearDo; rw [e]; rfl
    rw [hd]
    have h' := dropU_k h (by rw [e]; decide)
    have hp' := hp.dropU (no_kind _ _ _ (by rw [e]; decide))
    have hr : hrefH A 1 m.key = A := by unfold hrefH; rw [isHeld_nil hha]; rfl
    refine ⟨app_nilD ?_, rfl, .inl rfl⟩
    show InvP ⟨hrefB A 1 m.key, B, D, U⟩
    unfold hrefB
    rw [hr]
    cases isAway A 1 m.key
    · exact h'
    · rw [ho]
      exact chA h' hk ho (hp'.own (o' := notO o) rfl rfl rfl) (fun k' hn o x p => p) h'.dk h'.uk
  · have hd : hearDo A 1 m = ⟨[], 0, hretB A 1 m⟩ := by unfold hearDo; rw [e]; rfl
    rw [hd]
    obtain ⟨b1, b2, b3, b4⟩ := hp.back e rfl
    have hw : hretB A 1 m = A.setO m.key (backO o) := by
      unfold hretB isAway
      simp only [ho, Option.getD_some, b1, decide_eq_true b2, decide_eq_true b3]; rfl
    rw [hw]
    exact ⟨app_nilD (chA h hk ho b4 (fun k' hn o x p => p.dropU (no_key _ _ _ _ hn rfl)) h.dk (tail_of h.uk)), rfl, .inl rfl⟩
end
end Go.Proofs.Ytjeppnhkgiljpaa
end
