/- HANDOVER, plain: each request is answered: every act keeps what holds. -/
import Derived.Test.YtjeppnhkgiljpaaM44
namespace Go.Proofs.Ytjeppnhkgiljpaa
set_option maxRecDepth 100000
open Go.RowKit Go.Lib Go.Tk Go.Shelf Go.Vc Go.Sx
set_option linter.unusedVariables false
set_option linter.unusedSimpArgs false

def keysC : List Kid := [keyA 0, keyA 1, keyA 2]
structure InvA (σ : HSt) : Prop where
  one : ∀ k ∈ keysC, AnsP ((lkt σ.a.owns k).getD own0) ((lkt σ.b.helds k).getD held0) k σ.down σ.up
  sa : σ.a.self = 0
  na : σ.a.n = 2
  sb : σ.b.self = 1
  nb : σ.b.n = 2
  ow : ∀ k, (lkt σ.a.owns k).isSome = true → k ∈ keysC
  no : (σ.a.owns.map (·.1)).Nodup
  ob : σ.b.owns = []
  ha : σ.a.helds = []
  he : ∀ k, (lkt σ.b.helds k).isSome = true → k ∈ keysC
  nd : (σ.b.helds.map (·.1)).Nodup
  dk : ∀ m ∈ σ.down, m.key ∈ keysC ∧ (m.kind = 2 ∨ m.kind = 3 ∨ m.kind = 4)
  uk : ∀ m ∈ σ.up, m.key ∈ keysC ∧ (m.kind = 1 ∨ m.kind = 5)
theorem keysC_at {k : Kid} (h : k ∈ keysC) : ∃ i : Int, k = keyA i ∧ 0 ≤ i ∧ i ≤ 2 := by
  simp only [keysC, List.mem_cons, List.not_mem_nil, or_false] at h
  rcases h with rfl | rfl | rfl
  · exact ⟨0, rfl, by decide, by decide⟩
  · exact ⟨1, rfl, by decide, by decide⟩
  · exact ⟨2, rfl, by decide, by decide⟩
theorem at_keysC {i : Int} (h0 : 0 ≤ i) (h1 : i ≤ 2) : keyA i ∈ keysC := by
  have : i = 0 ∨ i = 1 ∨ i = 2 := by omega
  rcases this with rfl | rfl | rfl <;> simp [keysC]
theorem InvA.lens {σ : HSt} (h : InvA σ) : σ.a.owns.length ≤ 3 ∧ σ.b.helds.length ≤ 3 := by
  have h1 := len_sub _ keysC h.no (fun a ha => h.ow a (by
    cases e : lkt σ.a.owns a with
    | none => exact absurd ha (lkt_none.1 e)
    | some _ => rfl))
  have h2 := len_sub _ keysC h.nd (fun a ha => h.he a (by
    cases e : lkt σ.b.helds a with
    | none => exact absurd ha (lkt_none.1 e)
    | some _ => rfl))
  rw [List.length_map] at h1 h2
  exact ⟨h1, h2⟩
theorem InvA.setHE {σ : HSt} (h : InvA σ) {k : Kid} (hk : k ∈ keysC) : σ.b.setHE k = 0 := by
  obtain ⟨i, rfl, h0, h1⟩ := keysC_at hk
  have hb : σ.b.badK (keyA i) = false := by
    unfold BookV.badK
    rw [h.sb, h.nb]
    show (decide ((0 : Int) = 1) || (decide ((2 : Int) ≤ 0) || (decide ((1 : Int) < 1) || (decide ((9999999999 : Int) < 1) || decide (4 ≤ i))))) = false
    rw [decide_eq_false (show ¬ 4 ≤ i by omega)]; rfl
  have hl := h.lens.2
  unfold BookV.setHE
  rw [hb, decide_eq_false (show ¬ 64 ≤ σ.b.helds.length by omega), Bool.and_false]; rfl
theorem InvA.setH {σ : HSt} (h : InvA σ) {k : Kid} (hk : k ∈ keysC) (x : HeldV) : σ.b.setH k x = { σ.b with helds := putt σ.b.helds k x } := by
  unfold BookV.setH; rw [h.setHE hk]; rfl
section
variable {A B : BookV} {D U D' U' : List MsV} {k : Kid}
theorem achB (h : InvA ⟨A, B, D, U⟩) (hk : k ∈ keysC) {x' : HeldV} (h1 : ∀ o, AnsP o ((lkt B.helds k).getD held0) k D U → AnsP o x' k D' U') (h2 : ∀ k', k' ≠ k → ∀ o x, AnsP o x k' D U → AnsP o x k' D' U')
    (h3 : ∀ m ∈ D', m.key ∈ keysC ∧ (m.kind = 2 ∨ m.kind = 3 ∨ m.kind = 4)) (h4 : ∀ m ∈ U', m.key ∈ keysC ∧ (m.kind = 1 ∨ m.kind = 5)) : InvA ⟨A, B.setH k x', D', U'⟩ := by
  rw [show B.setH k x' = { B with helds := putt B.helds k x' } from h.setH hk x']
  refine ⟨fun k' hk' => ?_, h.sa, h.na, h.sb, h.nb, h.ow, h.no, h.ob, h.ha, fun k' hk' => ?_, putt_nodup h.nd k x', h3, h4⟩
  · have hp := h.one k' hk'
    show AnsP _ ((lkt (putt B.helds k x') k').getD held0) k' D' U'
    rw [lkt_put]
    by_cases e : k = k'
    · subst e; rw [if_pos rfl]; exact h1 _ hp
    · rw [if_neg e]; exact h2 k' (fun q => e q.symm) _ _ hp
  · have hk' : (lkt (putt B.helds k x') k').isSome = true := hk'
    rw [lkt_put] at hk'
    by_cases e : k = k'
    · subst e; exact hk
    · rw [if_neg e] at hk'; exact h.he k' hk'
theorem achA (h : InvA ⟨A, B, D, U⟩) (hk : k ∈ keysC) {o o' : OwnV} (ho : lkt A.owns k = some o) (h1 : AnsP o' ((lkt B.helds k).getD held0) k D' U') (h2 : ∀ k', k' ≠ k → ∀ o x, AnsP o x k' D U → AnsP o x k' D' U')
    (h3 : ∀ m ∈ D', m.key ∈ keysC ∧ (m.kind = 2 ∨ m.kind = 3 ∨ m.kind = 4)) (h4 : ∀ m ∈ U', m.key ∈ keysC ∧ (m.kind = 1 ∨ m.kind = 5)) : InvA ⟨A.setO k o', B, D', U'⟩ := by
  rw [setO_some ho]
  refine ⟨fun k' hk' => ?_, h.sa, h.na, h.sb, h.nb, fun k' hk' => ?_, putt_nodup h.no k o', h.ob, h.ha, h.he, h.nd, h3, h4⟩
  · show AnsP ((lkt (putt A.owns k o') k').getD own0) _ k' D' U'
    rw [lkt_put]
    by_cases e : k = k'
    · subst e; rw [if_pos rfl]; exact h1
    · rw [if_neg e]
      exact h2 k' (fun q => e q.symm) _ _ (h.one k' hk')
  · have hk' : (lkt (putt A.owns k o') k').isSome = true := hk'
    rw [lkt_put] at hk'
    by_cases e : k = k'
    · subst e; exact hk
    · rw [if_neg e] at hk'; exact h.ow k' hk'
theorem achM (h : InvA ⟨A, B, D, U⟩) (h2 : ∀ k' ∈ keysC, AnsP ((lkt A.owns k').getD own0) ((lkt B.helds k').getD held0) k' D' U')
    (h3 : ∀ m ∈ D', m.key ∈ keysC ∧ (m.kind = 2 ∨ m.kind = 3 ∨ m.kind = 4)) (h4 : ∀ m ∈ U', m.key ∈ keysC ∧ (m.kind = 1 ∨ m.kind = 5)) : InvA ⟨A, B, D', U'⟩ :=
  ⟨h2, h.sa, h.na, h.sb, h.nb, h.ow, h.no, h.ob, h.ha, h.he, h.nd, h3, h4⟩
/-! ### how much is under way -/
def wtM (m : MsV) : Nat := if m.kind = 1 ∨ m.kind = 4 then 2 else 1
def wts : List MsV → Nat
  | [] => 0
  | m :: l => wtM m + wts l
theorem wts_append (l r : List MsV) : wts (l ++ r) = wts l + wts r := by
  induction l with
  | nil => simp [wts]
  | cons m l ih => simp only [List.cons_append, wts, ih]; omega
theorem wts_len : ∀ l : List MsV, l.length ≤ wts l
  | [] => Nat.le_refl _
  | m :: l => by
    have := wts_len l
    have h : 1 ≤ wtM m := by unfold wtM; split <;> omega
    simp only [List.length_cons, wts]; omega
/-- told by none, or by one to tw, of weight n at most -/
def OutW (out : List OutV) (tw : Int) (n : Nat) : Prop := out = [] ∨ ∃ x, out = [x] ∧ x.dst = tw ∧ wtM x.m ≤ n
theorem OutW.to {out : List OutV} {tw : Int} {n : Nat} (h : OutW out tw n) : OutTo out tw := by
  rcases h with h | ⟨x, h1, h2, -⟩
  · exact .inl h
  · exact .inr ⟨x, h1, h2⟩
theorem OutW.le {out : List OutV} {tw : Int} {n : Nat} (h : OutW out tw n) : wts (outsM out) ≤ n ∧ (outsM out).length ≤ 1 := by
  rcases h with rfl | ⟨x, rfl, -, h⟩
  · exact ⟨Nat.zero_le _, Nat.zero_le _⟩
  · exact ⟨by show wtM x.m + 0 ≤ n; omega, Nat.le_refl _⟩
theorem anilU : InvA ⟨A, B, D, U⟩ → InvA ⟨A, B, D, U ++ outsM []⟩ := fun h => by rw [show outsM [] = [] from rfl, List.append_nil]; exact h
theorem anilD : InvA ⟨A, B, D, U⟩ → InvA ⟨A, B, D ++ outsM [], U⟩ := fun h => by rw [show outsM [] = [] from rfl, List.append_nil]; exact h
theorem awant_k (h : InvA ⟨A, B, D, U⟩) {k : Kid} (hk : k ∈ keysC) (h0 : k.t.c = 0) : InvA ⟨A, (wantQ B k).b, D, U ++ outsM (wantQ B k).out⟩ ∧ OutW (wantQ B k).out 0 2 := by
  rcases Bool.eq_false_or_eq_true ((lkt B.helds k).isSome && (((lkt B.helds k).getD held0).here || ((lkt B.helds k).getD held0).wanted)) with e | e
  · have hw : wantQ B k = ⟨[], 6, B⟩ := by unfold wantQ; rw [e]; rfl
    rw [hw]
    exact ⟨anilU h, .inl rfl⟩
  · have hs : B.setHE k = 0 := h.setHE hk
    have hw : wantQ B k = ⟨[⟨k.t.c, ⟨1, k, cpn0, 0, 0⟩⟩], 0, B.setH k (wantH ((lkt B.helds k).getD held0))⟩ := by unfold wantQ; rw [e, hs]; rfl
    have hx : ((lkt B.helds k).getD held0).here = false ∧ ((lkt B.helds k).getD held0).wanted = false := by
      cases hl : lkt B.helds k with
      | none => exact ⟨rfl, rfl⟩
      | some x =>
        rw [hl] at e
        have e : (x.here || x.wanted) = false := e
        rw [Bool.or_eq_false_iff] at e
        exact e
    rw [hw]
    refine ⟨?_, .inr ⟨_, rfl, h0, Nat.le_refl _⟩⟩
    show InvA ⟨A, B.setH k _, D, U ++ [⟨1, k, cpn0, 0, 0⟩]⟩
    exact achB h hk (fun o p => p.want hx.1 hx.2) (fun k' hn o x p => p.addU_ne (fun e => hn e.symm)) h.dk (mem_add h.uk ⟨hk, .inl rfl⟩)
theorem areturn_k (h : InvA ⟨A, B, D, U⟩) {k : Kid} (hk : k ∈ keysC) (h0 : k.t.c = 0) : InvA ⟨A, (returnQ B k).b, D, U ++ outsM (returnQ B k).out⟩ ∧ OutW (returnQ B k).out 0 2 := by
  have no : ∀ e, returnQ B k = ⟨[], e, B⟩ → InvA ⟨A, (returnQ B k).b, D, U ++ outsM (returnQ B k).out⟩ ∧ OutW (returnQ B k).out 0 2 := fun e hw => by
    rw [hw]
    exact ⟨anilU h, .inl rfl⟩
  rcases Bool.eq_false_or_eq_true (lkt B.helds k).isSome with e | e
  · rcases Bool.eq_false_or_eq_true ((lkt B.helds k).getD held0).here with e2 | e2
    · rcases Bool.eq_false_or_eq_true (decide (((lkt B.helds k).getD held0).k.s = 1)) with e3 | e3
      · have hw : returnQ B k = ⟨[giveO k ((lkt B.helds k).getD held0)], 0, B.setH k (goneH ((lkt B.helds k).getD held0))⟩ := by unfold returnQ; rw [e, e2, e3]; rfl
        rw [hw]
        exact ⟨achB h hk (fun o p => p.give e2) (fun k' hn o x p => p.addU_ne (fun e => hn e.symm)) h.dk (mem_add h.uk ⟨hk, .inr rfl⟩), .inr ⟨_, rfl, h0, by show (1 : Nat) ≤ 2; decide⟩⟩
      · exact no 6 (by unfold returnQ; rw [e, e2, e3]; rfl)
    · exact no 160 (by unfold returnQ; rw [e, e2]; rfl)
  · exact no 4 (by unfold returnQ; rw [e]; rfl)
theorem arecall_k (h : InvA ⟨A, B, D, U⟩) {k : Kid} (hk : k ∈ keysC) : InvA ⟨(recallQ A k).b, B, D ++ outsM (recallQ A k).out, U⟩ ∧ OutW (recallQ A k).out 1 2 := by
  have hp := h.one k hk
  cases ho : lkt A.owns k with
  | none =>
    have hw : recallQ A k = ⟨[], 4, A⟩ := by unfold recallQ; rw [ho]; rfl
    rw [hw]
    exact ⟨anilD h, .inl rfl⟩
  | some o =>
    have hp : AnsP ((lkt A.owns k).getD own0) ((lkt B.helds k).getD held0) k D U := hp
    rw [ho] at hp
    have hp : AnsP o ((lkt B.helds k).getD held0) k D U := hp
    rcases Bool.eq_false_or_eq_true (!o.away || (o.paid || o.asked)) with e | e
    · have hw : recallQ A k = ⟨[], 6, A⟩ := by unfold recallQ; simp only [ho, Option.getD_some, e]; rfl
      rw [hw]
      exact ⟨anilD h, .inl rfl⟩
    · have hw : recallQ A k = ⟨[⟨o.dst, ⟨4, k, cpn0, 0, 0⟩⟩], 0, A.setO k (askO o)⟩ := by unfold recallQ; simp only [ho, Option.getD_some, e]; rfl
      have ha : o.away = true := by
        rcases Bool.eq_false_or_eq_true o.away with q | q
        · exact q
        · rw [q] at e; cases e
      rw [hw]
      exact ⟨achA h hk ho (hp.recall ha) (fun k' hn o x p => p.addD_ne (fun e => hn e.symm)) (mem_add h.dk ⟨hk, .inr (.inr rfl)⟩) h.uk, .inr ⟨_, rfl, (hp.p.gone ha).1, Nat.le_refl _⟩⟩
theorem ahearD_k {m : MsV} (h : InvA ⟨A, B, m :: D, U⟩) : InvA ⟨A, (hearQ B 0 m).b, D, U ++ outsM (hearQ B 0 m).out⟩ ∧ (hearQ B 0 m).e = 0 ∧ OutW (hearQ B 0 m).out 0 (wtM m - 1) := by
  obtain ⟨hk, kinds⟩ := h.dk m List.mem_cons_self
  obtain ⟨i, hi, -, -⟩ := keysC_at hk
  have hc : m.key.t.c = 0 := by rw [hi]; rfl
  have hbad : badHear B 0 m.kind = false := by
    unfold badHear
    rw [show B.self = 1 from h.sb, show B.n = 2 from h.nb]
    rcases kinds with e | e | e <;> rw [e] <;> rfl
  have hq : hearQ B 0 m = hearDo B 0 m := by unfold hearQ; rw [hbad]; rfl
  rw [hq]
  have hob : B.owns = [] := h.ob
  have hp : AnsP ((lkt A.owns m.key).getD own0) ((lkt B.helds m.key).getD held0) m.key (m :: D) U := h.one m.key hk
  rcases kinds with e | e | e
  · have hd : hearDo B 0 m = ⟨[], (hgrantQ B 0 m).e, (hgrantQ B 0 m).b⟩ := by unfold hearDo; rw [e]; rfl
    rw [hd]
    obtain ⟨l1, l2, -⟩ := hp.land e rfl
    have hg : hgrantQ B 0 m = ⟨[], 0, B.setH m.key (newH m.k)⟩ := by
      unfold hgrantQ
      simp only [l1, hc, show B.setHE m.key = 0 from h.setHE hk, decide_eq_false (show ¬ m.k.n ≤ ((lkt B.helds m.key).getD held0).k.n by omega), Bool.or_false, Bool.and_false]
      rfl
    rw [hg]
    exact ⟨anilU (achB h hk (fun o p => (p.land e rfl).2.2) (fun k' hn o x p => p.dropD_ne (fun e => hn e.symm)) (tail_of h.dk) h.uk), rfl, .inl rfl⟩
  · have hd : hearDo B 0 m = ⟨[], 0, hrefB B 0 m.key⟩ := by unfold hearDo; rw [e]; rfl
    rw [hd]
    obtain ⟨hw, -⟩ := hp.refused e rfl
    have hh : isHeld B 0 m.key = true := by
      unfold isHeld
      cases hl : lkt B.helds m.key with
      | none => rw [hl] at hw; cases hw
      | some x => rw [hc]; rfl
    have hr : hrefB B 0 m.key = B.setH m.key (notH ((lkt B.helds m.key).getD held0)) := by
      have e1 : hrefH B 0 m.key = B.setH m.key (notH ((lkt B.helds m.key).getD held0)) := by unfold hrefH; rw [hh]; rfl
      have ho : (hrefH B 0 m.key).owns = [] := by rw [e1, show B.setH m.key _ = _ from h.setH hk _]; exact hob
      unfold hrefB; rw [isAway_nil ho]; exact e1
    rw [hr]
    exact ⟨anilU (achB h hk (fun o p => (p.refused e rfl).2) (fun k' hn o x p => p.dropD_ne (fun e => hn e.symm)) (tail_of h.dk) h.uk), rfl, .inl rfl⟩
  · have hd : hearDo B 0 m = hrecallQ B 0 m.key := by unfold hearDo; rw [e]; rfl
    rw [hd]
    have hw2 : wtM m - 1 = 1 := by unfold wtM; rw [if_pos (.inr e)]
    rw [hw2]
    rcases Bool.eq_false_or_eq_true ((lkt B.helds m.key).getD held0).here with hx | hx
    · have hh : isHeld B 0 m.key = true := by
        unfold isHeld
        cases hl : lkt B.helds m.key with
        | none => rw [hl] at hx; cases hx
        | some x => rw [hc]; rfl
      have hw : hrecallQ B 0 m.key = ⟨[giveO m.key ((lkt B.helds m.key).getD held0)], 0, B.setH m.key (goneH ((lkt B.helds m.key).getD held0))⟩ := by
        unfold hrecallQ; simp only [hh, hx, hp.hs hx]; rfl
      rw [hw]
      exact ⟨achB h hk (fun o p => p.recallGive e hx) (fun k' hn o x p => (p.dropD_ne (fun e => hn e.symm)).addU_ne (fun e => hn e.symm)) (tail_of h.dk) (mem_add h.uk ⟨hk, .inr rfl⟩), rfl, .inr ⟨_, rfl, hc, Nat.le_refl _⟩⟩
    · have hw : hrecallQ B 0 m.key = ⟨[], 0, B⟩ := by unfold hrecallQ; simp only [hx, Bool.not_false, Bool.or_true]; rfl
      rw [hw]
      refine ⟨anilU (achM h (fun k' hk' => ?_) (tail_of h.dk) h.uk), rfl, .inl rfl⟩
      have q : AnsP ((lkt A.owns k').getD own0) ((lkt B.helds k').getD held0) k' (m :: D) U := h.one k' hk'
      by_cases e1 : m.key = k'
      · subst e1; exact q.recallNo e hx
      · exact q.dropD_ne e1
theorem ahearU_k {m : MsV} (h : InvA ⟨A, B, D, m :: U⟩) : InvA ⟨(hearQ A 1 m).b, B, D ++ outsM (hearQ A 1 m).out, U⟩ ∧ (hearQ A 1 m).e = 0 ∧ OutW (hearQ A 1 m).out 1 (wtM m - 1) := by
  obtain ⟨hk, kinds⟩ := h.uk m List.mem_cons_self
  have hbad : badHear A 1 m.kind = false := by
    unfold badHear
    rw [show A.self = 0 from h.sa, show A.n = 2 from h.na]
    rcases kinds with e | e <;> rw [e] <;> rfl
  have hq : hearQ A 1 m = hearDo A 1 m := by unfold hearQ; rw [hbad]; rfl
  rw [hq]
  have hp : AnsP ((lkt A.owns m.key).getD own0) ((lkt B.helds m.key).getD held0) m.key D (m :: U) := h.one m.key hk
  rcases kinds with e | e
  · have hd : hearDo A 1 m = hwantQ A 1 m.key := by unfold hearDo; rw [e]; rfl
    rw [hd]
    have hw2 : wtM m - 1 = 1 := by unfold wtM; rw [if_pos (.inl e)]
    rw [hw2]
    have ref : ∀ c, hwantQ A 1 m.key = ⟨[refO 1 m.key c], 0, A⟩ → InvA ⟨(hwantQ A 1 m.key).b, B, D ++ outsM (hwantQ A 1 m.key).out, U⟩ ∧ (hwantQ A 1 m.key).e = 0 ∧ OutW (hwantQ A 1 m.key).out 1 1 := fun c hw => by
      rw [hw]
      refine ⟨achM h (fun k' hk' => ?_) (mem_add h.dk ⟨hk, .inr (.inl rfl)⟩) (tail_of h.uk), rfl, .inr ⟨_, rfl, rfl, Nat.le_refl _⟩⟩
      have q : AnsP ((lkt A.owns k').getD own0) ((lkt B.helds k').getD held0) k' D (m :: U) := h.one k' hk'
      by_cases e1 : m.key = k'
      · subst e1; exact q.wantNo e rfl c
      · exact (q.dropU_ne e1).addD_ne e1
    cases ho : lkt A.owns m.key with
    | none => exact ref 4 (by unfold hwantQ; simp only [ho]; rfl)
    | some o =>
      rw [ho] at hp
      have hp : AnsP o ((lkt B.helds m.key).getD held0) m.key D (m :: U) := hp
      rcases Bool.eq_false_or_eq_true o.away with a1 | a1
      · exact ref 160 (by unfold hwantQ; simp only [ho, Option.getD_some, a1]; rfl)
      rcases Bool.eq_false_or_eq_true (decide (o.k.l.c = 1)) with a2 | a2
      · rcases Bool.eq_false_or_eq_true (decide (o.k.s = 1)) with a3 | a3
        · rcases Bool.eq_false_or_eq_true (decide (o.k.n = 4294967295)) with a4 | a4
          · exact ref 3 (by unfold hwantQ; simp only [ho, Option.getD_some, a1, a2, a3, a4]; rfl)
          · have hw : hwantQ A 1 m.key = ⟨[⟨1, ⟨2, m.key, (givenO o 1).k, 0, 0⟩⟩], 0, A.setO m.key (givenO o 1)⟩ := by unfold hwantQ; simp only [ho, Option.getD_some, a1, a2, a3, a4]; rfl
            rw [hw]
            exact ⟨achA h hk ho (hp.grant e rfl a1 (of_decide_eq_true a3) (of_decide_eq_false a4)) (fun k' hn o x p => (p.dropU_ne (fun e => hn e.symm)).addD_ne (fun e => hn e.symm)) (mem_add h.dk ⟨hk, .inl rfl⟩) (tail_of h.uk), rfl, .inr ⟨_, rfl, rfl, Nat.le_refl _⟩⟩
        · exact ref 6 (by unfold hwantQ; simp only [ho, Option.getD_some, a1, a2, a3]; rfl)
      · exact ref 1 (by unfold hwantQ; simp only [ho, Option.getD_some, a1, a2]; rfl)
  · have hd : hearDo A 1 m = ⟨[], 0, hretB A 1 m⟩ := by unfold hearDo; rw [e]; rfl
    rw [hd]
    cases ho : lkt A.owns m.key with
    | none =>
      rw [ho] at hp
      have := (hp.back e rfl).1
      cases this
    | some o =>
      rw [ho] at hp
      have hp : AnsP o ((lkt B.helds m.key).getD held0) m.key D (m :: U) := hp
      obtain ⟨b1, b2, b3, b4⟩ := hp.back e rfl
      have hw : hretB A 1 m = A.setO m.key (backO o) := by
        unfold hretB isAway
        simp only [ho, Option.getD_some, b1, decide_eq_true b2, decide_eq_true b3]; rfl
      rw [hw]
      exact ⟨anilD (achA h hk ho b4 (fun k' hn o x p => p.dropU_ne (fun e => hn e.symm)) h.dk (tail_of h.uk)), rfl, .inl rfl⟩
end
end Go.Proofs.Ytjeppnhkgiljpaa
