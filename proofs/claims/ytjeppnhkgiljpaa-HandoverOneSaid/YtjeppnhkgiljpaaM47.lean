/- HoP3, HoP4. -/
import Derived.Test.YtjeppnhkgiljpaaHoP2
section
namespace Go.Proofs.Ytjeppnhkgiljpaa
set_option maxRecDepth 100000
open Go.RowKit Go.Lib Go.Tk Go.Shelf Go.Vc Go.Sx
set_option linter.unusedVariables false
set_option linter.unusedSimpArgs false

section
variable {A B : BookV} {D U : List MsV}
/-- told by none, or by one to tw -/
def OutTo (out : List OutV) (tw : Int) : Prop := out = [] ∨ ∃ x, out = [x] ∧ x.dst = tw
theorem key_cases {j : Int} (h0 : 0 ≤ j) (h1 : j ≤ 4) : keyA j ∈ keysA ∨ j = 4 := by
  by_cases h : j = 4
  · exact .inr h
  · exact .inl (at_keys h0 (by omega))
theorem no_key (k k' : Kid) (m : MsV) (kind : Int) (h : k' ≠ k) (hm : m.key = k) : ¬(m.kind = kind ∧ m.key = k') := fun e => h (by rw [← e.2, hm])
theorem no_kind (k' : Kid) (m : MsV) (kind : Int) (h : m.kind ≠ kind) : ¬(m.kind = kind ∧ m.key = k') := fun e => h e.1
theorem want_4 (h : InvP ⟨A, B, D, U⟩) : wantQ B (keyA 4) = ⟨[], 1, B⟩ := by
  have hn : (lkt B.helds (keyA 4)).isSome = false := by
    rcases Bool.eq_false_or_eq_true (lkt B.helds (keyA 4)).isSome with e | e
    · exact absurd (h.he _ e) key4
    · exact e
  have hb : B.badK (keyA 4) = true := by
    unfold BookV.badK
    rw [show B.self = 1 from h.sb, show B.n = 2 from h.nb]; rfl
  have hs : B.setHE (keyA 4) = 1 := by unfold BookV.setHE; rw [hb]; rfl
  unfold wantQ
  rw [hn, hs]; rfl
theorem want_k (h : InvP ⟨A, B, D, U⟩) {k : Kid} (hk : k ∈ keysA) (h0 : k.t.c = 0) : InvP ⟨A, (wantQ B k).b, D, U ++ outsM (wantQ B k).out⟩ ∧ OutTo (wantQ B k).out 0 := by
  rcases Bool.eq_false_or_eq_true ((lkt B.helds k).isSome && (((lkt B.helds k).getD held0).here || ((lkt B.helds k).getD held0).wanted)) with e | e
  · have hw : wantQ B k = ⟨[], 6, B⟩ := by unfold wantQ; rw [e]; rfl
    rw [hw]
    exact ⟨by show InvP ⟨A, B, D, U ++ []⟩; rw [List.append_nil]; exact h, .inl rfl⟩
  · have hs : B.setHE k = 0 := h.setHE hk
    have hw : wantQ B k = ⟨[⟨k.t.c, ⟨1, k, cpn0, 0, 0⟩⟩], 0, B.setH k (wantH ((lkt B.helds k).getD held0))⟩ := by unfold wantQ; rw [e, hs]; rfl
    rw [hw]
    refine ⟨?_, .inr ⟨_, rfl, h0⟩⟩
    show InvP ⟨A, B.setH k _, D, U ++ [⟨1, k, cpn0, 0, 0⟩]⟩
    exact chB h hk (fun o p => (p.held (x' := wantH ((lkt B.helds k).getD held0)) rfl rfl).addU (no_kind _ ⟨1, k, cpn0, 0, 0⟩ _ (by show (1 : Int) ≠ 5; decide))) (fun k' hn o x p => p.addU (no_kind _ ⟨1, k, cpn0, 0, 0⟩ _ (by show (1 : Int) ≠ 5; decide))) h.dk (mem_add h.uk ⟨hk, .inl rfl⟩)
/-- what is here is handed back -/
theorem give_k (h : InvP ⟨A, B, D, U⟩) {k : Kid} (hk : k ∈ keysA) (hx : ((lkt B.helds k).getD held0).here = true) : InvP ⟨A, B.setH k (goneH ((lkt B.helds k).getD held0)), D, U ++ [⟨5, k, ((lkt B.helds k).getD held0).k, 0, 0⟩]⟩ :=
  chB h hk (fun o p => p.give hx) (fun k' hn o x p => p.addU (no_key k _ _ _ hn rfl)) h.dk (mem_add h.uk ⟨hk, .inr (.inr rfl)⟩)
theorem return_4 (h : InvP ⟨A, B, D, U⟩) : returnQ B (keyA 4) = ⟨[], 4, B⟩ := by
  have hn : (lkt B.helds (keyA 4)).isSome = false := by
    rcases Bool.eq_false_or_eq_true (lkt B.helds (keyA 4)).isSome with e | e
    · exact absurd (h.he _ e) key4
    · exact e
  unfold returnQ
  rw [hn]; rfl
theorem return_k (h : InvP ⟨A, B, D, U⟩) {k : Kid} (hk : k ∈ keysA) (h0 : k.t.c = 0) : InvP ⟨A, (returnQ B k).b, D, U ++ outsM (returnQ B k).out⟩ ∧ OutTo (returnQ B k).out 0 := by
  have no : ∀ e, returnQ B k = ⟨[], e, B⟩ → InvP ⟨A, (returnQ B k).b, D, U ++ outsM (returnQ B k).out⟩ ∧ OutTo (returnQ B k).out 0 := fun e hw => by
    rw [hw]
    exact ⟨by show InvP ⟨A, B, D, U ++ []⟩; rw [List.append_nil]; exact h, .inl rfl⟩
  rcases Bool.eq_false_or_eq_true (lkt B.helds k).isSome with e | e
  · rcases Bool.eq_false_or_eq_true ((lkt B.helds k).getD held0).here with e2 | e2
    · rcases Bool.eq_false_or_eq_true (decide (((lkt B.helds k).getD held0).k.s = 1)) with e3 | e3
      · have hw : returnQ B k = ⟨[giveO k ((lkt B.helds k).getD held0)], 0, B.setH k (goneH ((lkt B.helds k).getD held0))⟩ := by unfold returnQ; rw [e, e2, e3]; rfl
        rw [hw]
        exact ⟨give_k h hk e2, .inr ⟨_, rfl, h0⟩⟩
      · exact no 6 (by unfold returnQ; rw [e, e2, e3]; rfl)
    · exact no 160 (by unfold returnQ; rw [e, e2]; rfl)
  · exact no 4 (by unfold returnQ; rw [e]; rfl)
theorem recall_4 (h : InvP ⟨A, B, D, U⟩) : recallQ A (keyA 4) = ⟨[], 4, A⟩ := by
  have hn : (lkt A.owns (keyA 4)).isSome = false := by
    rcases Bool.eq_false_or_eq_true (lkt A.owns (keyA 4)).isSome with e | e
    · exact absurd (h.ow _ e) key4
    · exact e
  unfold recallQ
  rw [hn]; rfl
theorem recall_k (h : InvP ⟨A, B, D, U⟩) {k : Kid} (hk : k ∈ keysA) : InvP ⟨(recallQ A k).b, B, D ++ outsM (recallQ A k).out, U⟩ ∧ OutTo (recallQ A k).out 1 := by
  obtain ⟨o, ho, hp⟩ := h.one k hk
  have ho : lkt A.owns k = some o := ho
  rcases Bool.eq_false_or_eq_true (!o.away || (o.paid || o.asked)) with e | e
  · have hw : recallQ A k = ⟨[], 6, A⟩ := by unfold recallQ; simp only [ho, Option.getD_some, e]; rfl
    rw [hw]
    exact ⟨by show InvP ⟨A, B, D ++ [], U⟩; rw [List.append_nil]; exact h, .inl rfl⟩
  · have hw : recallQ A k = ⟨[⟨o.dst, ⟨4, k, cpn0, 0, 0⟩⟩], 0, A.setO k (askO o)⟩ := by unfold recallQ; simp only [ho, Option.getD_some, e]; rfl
    have ha : o.away = true := by
      rcases Bool.eq_false_or_eq_true o.away with q | q
      · exact q
      · rw [q] at e; cases e
    rw [hw]
    exact ⟨chA h hk ho ((hp.own (o' := askO o) rfl rfl rfl).addD (no_kind _ ⟨4, k, cpn0, 0, 0⟩ _ (by show (4 : Int) ≠ 2; decide))) (fun k' hn o x p => p.addD (no_kind _ ⟨4, k, cpn0, 0, 0⟩ _ (by show (4 : Int) ≠ 2; decide))) (mem_add h.dk ⟨hk, .inr (.inr rfl)⟩) h.uk, .inr ⟨_, rfl, (hp.gone ha).1⟩⟩
theorem tail_of {p : MsV → Prop} {m : MsV} {l : List MsV} (h : ∀ x ∈ m :: l, p x) : ∀ x ∈ l, p x := fun x hx => h x (List.mem_cons_of_mem _ hx)
theorem dropD_k {m : MsV} (h : InvP ⟨A, B, m :: D, U⟩) (hm : m.kind ≠ 2) : InvP ⟨A, B, D, U⟩ := chM h (fun k' o x p => p.dropD (no_kind _ _ _ hm)) (tail_of h.dk) h.uk
theorem dropU_k {m : MsV} (h : InvP ⟨A, B, D, m :: U⟩) (hm : m.kind ≠ 5) : InvP ⟨A, B, D, U⟩ := chM h (fun k' o x p => p.dropU (no_kind _ _ _ hm)) h.dk (tail_of h.uk)
theorem isAway_nil {c : Int} {k : Kid} (h : B.owns = []) : isAway B c k = false := by unfold isAway; rw [h]; rfl
theorem isHeld_nil {c : Int} {k : Kid} (h : B.helds = []) : isHeld B c k = false := by unfold isHeld; rw [h]; rfl
theorem app_nil : InvP ⟨A, B, D, U⟩ → InvP ⟨A, B, D, U ++ outsM []⟩ := fun h => by rw [show outsM [] = [] from rfl, List.append_nil]; exact h
theorem app_nilD : InvP ⟨A, B, D, U⟩ → InvP ⟨A, B, D ++ outsM [], U⟩ := fun h => by rw [show outsM [] = [] from rfl, List.append_nil]; exact h
theorem hearD_k {m : MsV} (h : InvP ⟨A, B, m :: D, U⟩) : InvP ⟨A, (hearQ B 0 m).b, D, U ++ outsM (hearQ B 0 m).out⟩ ∧ (hearQ B 0 m).e = 0 ∧ OutTo (hearQ B 0 m).out 0 := by
  obtain ⟨hk, kinds⟩ := h.dk m List.mem_cons_self
  obtain ⟨i, hi, -, -⟩ := keys_at hk
  have hc : m.key.t.c = 0 := by rw [hi]; rfl
  have hbad : badHear B 0 m.kind = false := by
    unfold badHear
    rw [show B.self = 1 from h.sb, show B.n = 2 from h.nb]
    rcases kinds with e | e | e <;> rw [e] <;> rfl
  have hq : hearQ B 0 m = hearDo B 0 m := by unfold hearQ; rw [hbad]; rfl
  rw [hq]
  have hob : B.owns = [] := h.ob
  rcases kinds with e | e | e
  · have hd : hearDo B 0 m = ⟨[], (hgrantQ B 0 m).e, (hgrantQ B 0 m).b⟩ := by unfold hearDo; rw [e]; rfl
    rw [hd]
    obtain ⟨o, ho, hp⟩ := h.one m.key hk
    obtain ⟨l1, l2, -⟩ := hp.land e rfl
    have l1 : ((lkt B.helds m.key).getD held0).here = false := l1
    have l2 : ((lkt B.helds m.key).getD held0).k.n < m.k.n := l2
    have hg : hgrantQ B 0 m = ⟨[], 0, B.setH m.key (newH m.k)⟩ := by
      unfold hgrantQ
      simp only [l1, hc, show B.setHE m.key = 0 from h.setHE hk, decide_eq_false (show ¬ m.k.n ≤ ((lkt B.helds m.key).getD held0).k.n by omega), Bool.or_false, Bool.and_false]
      rfl
    rw [hg]
    exact ⟨app_nil (chB h hk (fun o p => (p.land e rfl).2.2) (fun k' hn o x p => p.dropD (no_key _ _ _ _ hn rfl)) (tail_of h.dk) h.uk), rfl, .inl rfl⟩
  · have hd : hearDo B 0 m = ⟨[], 0, hrefB B 0 m.key⟩ := by unfold hearDo; rw [e]; rfl
    rw [hd]
    have hr : hrefB B 0 m.key = hrefH B 0 m.key := by
      have ho : (hrefH B 0 m.key).owns = [] := by
        unfold hrefH
        cases isHeld B 0 m.key
        · exact hob
        · show (B.setH _ _).owns = []; rw [show B.setH m.key _ = _ from h.setH hk _]; exact hob
      unfold hrefB; rw [isAway_nil ho]; rfl
    rw [hr]
    have h' := dropD_k h (by rw [e]; decide)
    refine ⟨app_nil ?_, rfl, .inl rfl⟩
    unfold hrefH
    cases isHeld B 0 m.key
    · exact h'
    · exact chB h' hk (fun o p => p.held (x' := notH ((lkt B.helds m.key).getD held0)) rfl rfl) (fun k' hn o x p => p) h'.dk h'.uk
  · have hd : hearDo B 0 m = hrecallQ B 0 m.key := by unfold hearDo; rw [e]; rfl
    rw [hd]
    have h' := dropD_k h (by rw [e]; decide)
    rcases Bool.eq_false_or_eq_true (!isHeld B 0 m.key || !((lkt B.helds m.key).getD held0).here) with e1 | e1
    · have hw : hrecallQ B 0 m.key = ⟨[], 0, B⟩ := by unfold hrecallQ; simp only [e1]; rfl
      rw [hw]
      exact ⟨app_nil h', rfl, .inl rfl⟩
    · have hx : ((lkt B.helds m.key).getD held0).here = true := by
        rcases Bool.eq_false_or_eq_true ((lkt B.helds m.key).getD held0).here with q | q
        · exact q
        · rw [q] at e1; simp at e1
      rcases Bool.eq_false_or_eq_true (decide (((lkt B.helds m.key).getD held0).k.s = 1)) with e3 | e3
      · have hw : hrecallQ B 0 m.key = ⟨[giveO m.key ((lkt B.helds m.key).getD held0)], 0, B.setH m.key (goneH ((lkt B.helds m.key).getD held0))⟩ := by unfold hrecallQ; simp only [e1, e3]; rfl
        rw [hw]
        exact ⟨give_k h' hk hx, rfl, .inr ⟨_, rfl, hc⟩⟩
      · have hw : hrecallQ B 0 m.key = ⟨[refO 0 m.key 6], 0, B⟩ := by unfold hrecallQ; simp only [e1, e3]; rfl
        rw [hw]
        exact ⟨chM h' (fun k' o x p => p.addU (no_kind _ ⟨3, m.key, cpn0, 0, 6⟩ _ (by show (3 : Int) ≠ 5; decide))) h'.dk (mem_add h'.uk ⟨hk, .inr (.inl rfl)⟩), rfl, .inr ⟨_, rfl, rfl⟩⟩
theorem hearU_k {m : MsV} (h : InvP ⟨A, B, D, m :: U⟩) : InvP ⟨(hearQ A 1 m).b, B, D ++ outsM (hearQ A 1 m).out, U⟩ ∧ (hearQ A 1 m).e = 0 ∧ OutTo (hearQ A 1 m).out 1 := by
  obtain ⟨hk, kinds⟩ := h.uk m List.mem_cons_self
  obtain ⟨i, hi, -, -⟩ := keys_at hk
  have hbad : badHear A 1 m.kind = false := by
    unfold badHear
    rw [show A.self = 0 from h.sa, show A.n = 2 from h.na]
    rcases kinds with e | e | e <;> rw [e] <;> rfl
  have hq : hearQ A 1 m = hearDo A 1 m := by unfold hearQ; rw [hbad]; rfl
  rw [hq]
  have hha : A.helds = [] := h.ha
  obtain ⟨o, ho, hp⟩ := h.one m.key hk
  have ho : lkt A.owns m.key = some o := ho
  rcases kinds with e | e | e
  · have hd : hearDo A 1 m = hwantQ A 1 m.key := by unfold hearDo; rw [e]; rfl
    rw [hd]
    have h' := dropU_k h (by rw [e]; decide)
    have hp' := hp.dropU (no_kind _ _ _ (by rw [e]; decide))
    have ref : ∀ c, hwantQ A 1 m.key = ⟨[refO 1 m.key c], 0, A⟩ → InvP ⟨(hwantQ A 1 m.key).b, B, D ++ outsM (hwantQ A 1 m.key).out, U⟩ ∧ (hwantQ A 1 m.key).e = 0 ∧ OutTo (hwantQ A 1 m.key).out 1 := fun c hw => by
      rw [hw]
      exact ⟨chM h' (fun k' o x p => p.addD (no_kind _ ⟨3, m.key, cpn0, 0, c⟩ _ (by show (3 : Int) ≠ 2; decide))) (mem_add h'.dk ⟨hk, .inr (.inl rfl)⟩) h'.uk, rfl, .inr ⟨_, rfl, rfl⟩⟩
    have hs : (lkt A.owns m.key).isSome = true := by rw [ho]; rfl
    rcases Bool.eq_false_or_eq_true o.away with a1 | a1
    · exact ref 160 (by unfold hwantQ; simp only [ho, Option.getD_some, a1]; rfl)
    rcases Bool.eq_false_or_eq_true (decide (o.k.l.c = 1)) with a2 | a2
    · rcases Bool.eq_false_or_eq_true (decide (o.k.s = 1)) with a3 | a3
      · rcases Bool.eq_false_or_eq_true (decide (o.k.n = 4294967295)) with a4 | a4
        · exact ref 3 (by unfold hwantQ; simp only [ho, Option.getD_some, a1, a2, a3, a4]; rfl)
        · have hw : hwantQ A 1 m.key = ⟨[⟨1, ⟨2, m.key, (givenO o 1).k, 0, 0⟩⟩], 0, A.setO m.key (givenO o 1)⟩ := by unfold hwantQ; simp only [ho, Option.getD_some, a1, a2, a3, a4]; rfl
          rw [hw]
          exact ⟨chA h' hk ho (hp'.grant a1 (of_decide_eq_false a4)) (fun k' hn o x p => p.addD (no_key m.key _ _ _ hn rfl)) (mem_add h'.dk ⟨hk, .inl rfl⟩) h'.uk, rfl, .inr ⟨_, rfl, rfl⟩⟩
      · exact ref 6 (by unfold hwantQ; simp only [ho, Option.getD_some, a1, a2, a3]; rfl)
    · exact ref 1 (by unfold hwantQ; simp only [ho, Option.getD_some, a1, a2]; rfl)
  · have hd : hearDo A 1 m = ⟨[], 0, hrefB A 1 m.key⟩ := by unfold hearDo; rw [e]; rfl
    rw [hd]
    have h' := dropU_k h (by rw [e]; decide)
    have hp' := hp.dropU (no_kind _ _ _ (by rw [e]; decide))
    have hr : hrefH A 1 m.key = A := by unfold hrefH; rw [isHeld_nil hha]; rfl
    refine ⟨app_nilD ?_, rfl, .inl rfl⟩
    show InvP ⟨hrefB A 1 m.key, B, D, U⟩
    unfold hrefB
    rw [hr]
    cases isAway A 1 m.key
    · exact h'
    · rw [ho]
      exact chA h' hk ho (hp'.own (o' := notO o) rfl rfl rfl) (fun k' hn o x p => p) h'.dk h'.uk
  · have hd : hearDo A 1 m = ⟨[], 0, hretB A 1 m⟩ := by unfold hearDo; rw [e]; rfl
    rw [hd]
    obtain ⟨b1, b2, b3, b4⟩ := hp.back e rfl
    have hw : hretB A 1 m = A.setO m.key (backO o) := by
      unfold hretB isAway
      simp only [ho, Option.getD_some, b1, decide_eq_true b2, decide_eq_true b3]; rfl
    rw [hw]
    exact ⟨app_nilD (chA h hk ho b4 (fun k' hn o x p => p.dropU (no_key _ _ _ _ hn rfl)) h.dk (tail_of h.uk)), rfl, .inl rfl⟩
end
end Go.Proofs.Ytjeppnhkgiljpaa
end
section
namespace Go.Proofs.Ytjeppnhkgiljpaa
set_option maxRecDepth 100000
open Go.RowKit Go.Lib Go.Tk Go.Shelf Go.Vc Go.Sx
set_option linter.unusedVariables false
set_option linter.unusedSimpArgs false

theorem out_len {out : List OutV} {tw : Int} (h : OutTo out tw) : (outsM out).length ≤ 1 := by
  rcases h with rfl | ⟨x, rfl, -⟩ <;> simp [outsM]
theorem step_ok {σ : HSt} (h : InvP σ) {d j : Int} (h0 : 0 ≤ j) (h1 : j ≤ 4) : InvP (stepH σ d j) ∧ GoodH σ d j ∧ (stepH σ d j).down.length ≤ σ.down.length + 1 ∧ (stepH σ d j).up.length ≤ σ.up.length + 1 := by
  obtain ⟨A, B, D, U⟩ := σ
  have fin0 : ∀ B' out D', D'.length ≤ D.length + 1 → stepH ⟨A, B, D, U⟩ d j = ⟨A, B', D', U ++ outsM out⟩ → outH ⟨A, B, D, U⟩ d j = out → eH ⟨A, B, D, U⟩ d = 0 → toH d = 0 → (InvP ⟨A, B', D', U ++ outsM out⟩ ∧ OutTo out 0) →
      InvP (stepH ⟨A, B, D, U⟩ d j) ∧ GoodH ⟨A, B, D, U⟩ d j ∧ (stepH ⟨A, B, D, U⟩ d j).down.length ≤ D.length + 1 ∧ (stepH ⟨A, B, D, U⟩ d j).up.length ≤ U.length + 1 := by
    intro B' out D' hD e1 e2 e3 e4 key
    have hl := out_len key.2
    rw [e1]
    exact ⟨key.1, ⟨e3, by rw [e2, e4]; exact key.2⟩, hD, by show (U ++ outsM out).length ≤ _; rw [List.length_append]; omega⟩
  have fin1 : ∀ A' out U', U'.length ≤ U.length + 1 → stepH ⟨A, B, D, U⟩ d j = ⟨A', B, D ++ outsM out, U'⟩ → outH ⟨A, B, D, U⟩ d j = out → eH ⟨A, B, D, U⟩ d = 0 → toH d = 1 → (InvP ⟨A', B, D ++ outsM out, U'⟩ ∧ OutTo out 1) →
      InvP (stepH ⟨A, B, D, U⟩ d j) ∧ GoodH ⟨A, B, D, U⟩ d j ∧ (stepH ⟨A, B, D, U⟩ d j).down.length ≤ D.length + 1 ∧ (stepH ⟨A, B, D, U⟩ d j).up.length ≤ U.length + 1 := by
    intro A' out U' hU e1 e2 e3 e4 key
    have hl := out_len key.2
    rw [e1]
    exact ⟨key.1, ⟨e3, by rw [e2, e4]; exact key.2⟩, by show (D ++ outsM out).length ≤ _; rw [List.length_append]; omega, hU⟩
  by_cases d0 : d = 0
  · refine fin0 (wantQ B (keyA j)).b (wantQ B (keyA j)).out D (by omega) (by unfold stepH; rw [if_pos d0]) (by unfold outH; rw [if_pos d0]) (by unfold eH; rw [if_pos d0]) (by unfold toH; rw [if_pos d0]) ?_
    rcases key_cases h0 h1 with q | rfl
    · exact want_k h q rfl
    · rw [want_4 h]; exact ⟨app_nil h, .inl rfl⟩
  by_cases d1 : d = 1
  · refine fin0 (returnQ B (keyA j)).b (returnQ B (keyA j)).out D (by omega) (by unfold stepH; rw [if_neg d0, if_pos d1]) (by unfold outH; rw [if_neg d0, if_pos d1]) (by unfold eH; rw [if_neg d0, if_pos d1]) (by unfold toH; rw [if_neg d0, if_pos d1]) ?_
    rcases key_cases h0 h1 with q | rfl
    · exact return_k h q rfl
    · rw [return_4 h]; exact ⟨app_nil h, .inl rfl⟩
  by_cases d2 : d = 2
  · refine fin1 (recallQ A (keyA j)).b (recallQ A (keyA j)).out U (by omega) (by unfold stepH; rw [if_neg d0, if_neg d1, if_pos d2]) (by unfold outH; rw [if_neg d0, if_neg d1, if_pos d2]) (by unfold eH; rw [if_neg d0, if_neg d1, if_pos d2]) (by unfold toH; rw [if_neg d0, if_neg d1, if_pos d2]) ?_
    rcases key_cases h0 h1 with q | rfl
    · exact recall_k h q
    · rw [recall_4 h]; exact ⟨app_nilD h, .inl rfl⟩
  by_cases d3 : d = 3
  · have t : toH d = 0 := by unfold toH; rw [if_neg d0, if_neg d1, if_neg d2, if_pos d3]
    cases D with
    | nil => exact fin0 B [] [] (by simp) (by unfold stepH; rw [if_neg d0, if_neg d1, if_neg d2, if_pos d3]; simp [outsM]) (by unfold outH; rw [if_neg d0, if_neg d1, if_neg d2, if_pos d3]) (by unfold eH; rw [if_neg d0, if_neg d1, if_neg d2, if_pos d3]) t ⟨app_nil h, .inl rfl⟩
    | cons m D =>
      have key := hearD_k h
      exact fin0 (hearQ B 0 m).b (hearQ B 0 m).out D (by simp only [List.length_cons]; omega) (by unfold stepH; rw [if_neg d0, if_neg d1, if_neg d2, if_pos d3]) (by unfold outH; rw [if_neg d0, if_neg d1, if_neg d2, if_pos d3]) (by unfold eH; rw [if_neg d0, if_neg d1, if_neg d2, if_pos d3]; exact key.2.1) t ⟨key.1, key.2.2⟩
  have t : toH d = 1 := by unfold toH; rw [if_neg d0, if_neg d1, if_neg d2, if_neg d3]
  cases U with
  | nil => exact fin1 A [] [] (by simp) (by unfold stepH; rw [if_neg d0, if_neg d1, if_neg d2, if_neg d3]; simp [outsM]) (by unfold outH; rw [if_neg d0, if_neg d1, if_neg d2, if_neg d3]) (by unfold eH; rw [if_neg d0, if_neg d1, if_neg d2, if_neg d3]) t ⟨app_nilD h, .inl rfl⟩
  | cons m U =>
    have key := hearU_k h
    exact fin1 (hearQ A 1 m).b (hearQ A 1 m).out U (by simp only [List.length_cons]; omega) (by unfold stepH; rw [if_neg d0, if_neg d1, if_neg d2, if_neg d3]) (by unfold outH; rw [if_neg d0, if_neg d1, if_neg d2, if_neg d3]) (by unfold eH; rw [if_neg d0, if_neg d1, if_neg d2, if_neg d3]; exact key.2.1) t ⟨key.1, key.2.2⟩
theorem one_new (l : Leg) (v : Int) (k : Kid) : OneP (ownNew l v) held0 k [] [] :=
  ⟨fun _ => ⟨rfl, rfl, rfl⟩, (fun e => by cases e), (fun m hm => by cases hm), (fun m hm => by cases hm), (fun e => by cases e), by show (0 : Int) ≤ 0; decide, (fun e => by cases e), by show (0 : Int) ≤ 0; decide, by show (0 : Int) ≤ _; decide⟩
theorem start_ok : InvP startH := by
  have hl : (shareV sale16b.fare (wsOf sale16b)).length = 4 := shareV_len (show shareE sale16b.fare (wsOf sale16b) = 0 by kernel_rfl)
  have hO : ∃ vs, startH.a.owns = issO tA sale16b vs [] 4 := ⟨shareV sale16b.fare (wsOf sale16b), by
    show issO (bookNew 0 2).nextT sale16b (shareV sale16b.fare (wsOf sale16b)) [] (shareV sale16b.fare (wsOf sale16b)).length = _
    rw [hl]; rfl⟩
  obtain ⟨vs, hO⟩ := hO
  have hK : (issO tA sale16b vs [] 4).map (·.1) = keysA := rfl
  refine ⟨fun k hk => ?_, rfl, rfl, rfl, rfl, fun k hk => ?_, rfl, rfl, (fun k hk => by cases hk), List.nodup_nil, (fun m hm => by cases hm), (fun m hm => by cases hm)⟩
  · rw [hO]
    obtain ⟨i, rfl, h0, h1⟩ := keys_at hk
    have : i = 0 ∨ i = 1 ∨ i = 2 ∨ i = 3 := by omega
    rcases this with rfl | rfl | rfl | rfl
    · exact ⟨_, rfl, one_new _ _ _⟩
    · exact ⟨_, rfl, one_new _ _ _⟩
    · exact ⟨_, rfl, one_new _ _ _⟩
    · exact ⟨_, rfl, one_new _ _ _⟩
  · rw [hO] at hk
    by_cases m : k ∈ keysA
    · exact m
    · rw [lkt_none.2 (show k ∉ (issO tA sale16b vs [] 4).map (·.1) from hK ▸ m)] at hk; cases hk
theorem run_ok {acts : List Act16} (ok : ∀ x ∈ acts, ActOk x) : ∀ i ≤ acts.length, InvP (runH startH acts i) ∧ (runH startH acts i).down.length ≤ i ∧ (runH startH acts i).up.length ≤ i
  | 0, _ => ⟨start_ok, Nat.le_refl _, Nat.le_refl _⟩
  | i + 1, hi => by
    obtain ⟨h1, h2, h3⟩ := run_ok ok i (by omega)
    have hx : acts.getD i act0 ∈ acts := List.mem_of_getElem? (getD_some (by omega) act0)
    have ha := atOf_in (ok _ hx)
    have hs := step_ok h1 (d := (acts.getD i act0).d) ha.1 ha.2
    exact ⟨hs.1, Nat.le_trans hs.2.2.1 (by omega), Nat.le_trans hs.2.2.2 (by omega)⟩
theorem cntM_eq (kind : Int) (k : Kid) (n : Int) {l : List MsV} (hn : ∀ m ∈ l, m.kind = kind → m.key = k → m.k.n = n) : ∀ i ≤ l.length, cntM kind k n l i = nM kind k (l.take i)
  | 0, _ => by rw [List.take_zero]; rfl
  | i + 1, hi => by
    have hg := getD_some (l := l) (i := i) (by omega) ⟨0, kid0, cpn0, 0, 0⟩
    have hm : l.getD i ⟨0, kid0, cpn0, 0, 0⟩ ∈ l := List.mem_of_getElem? hg
    rw [List.take_add_one, hg]
    show cntM kind k n l i + (bif okM kind k n (l.getD i ⟨0, kid0, cpn0, 0, 0⟩) then 1 else 0) = nM kind k (l.take i ++ [l.getD i ⟨0, kid0, cpn0, 0, 0⟩])
    rw [cntM_eq kind k n hn i (by omega)]
    generalize l.getD i ⟨0, kid0, cpn0, 0, 0⟩ = m at hm
    unfold okM
    rw [kidE_iff]
    by_cases e1 : m.kind = kind
    · by_cases e2 : m.key = k
      · rw [nM_add1 kind k _ ⟨e1, e2⟩, decide_eq_true e1, decide_eq_true e2, decide_eq_true (hn m hm e1 e2)]; rfl
      · rw [nM_add kind k _ (fun e => e2 e.2), decide_eq_true e1, decide_eq_false e2]; rfl
    · rw [nM_add kind k _ (fun e => e1 e.1), decide_eq_false e1]; rfl
theorem InvP.one1 {σ : HSt} (h : InvP σ) {k : Kid} (hk : k ∈ keysA) : controlsN σ.a σ.b k σ.down σ.up = 1 := by
  obtain ⟨o, ho, hp⟩ := h.one k hk
  have hd := cntM_eq 2 k o.k.n hp.dn σ.down.length (Nat.le_refl _)
  have hu := cntM_eq 5 k o.k.n hp.upn σ.up.length (Nat.le_refl _)
  rw [List.take_length] at hd hu
  have h1 : ctl1 σ.b k = if ((lkt σ.b.helds k).getD held0).here = true then 1 else 0 := by
    unfold ctl1
    cases lkt σ.b.helds k with
    | none => rfl
    | some x => show (bif true && x.here then 1 else 0) = if x.here = true then 1 else 0; cases x.here <;> rfl
  unfold controlsN
  rw [h1]
  unfold ctl0
  rw [ho]
  show (bif true && !o.away then 1 else 0) + _ + cntM 2 k o.k.n σ.down σ.down.length + cntM 5 k o.k.n σ.up σ.up.length = 1
  rw [hd, hu]
  rcases Bool.eq_false_or_eq_true o.away with e | e
  · have hg := hp.gone e
    rw [e]
    show 0 + _ + _ + _ = 1
    omega
  · have hg := hp.stay e
    rw [e, hg.1, hg.2.1, hg.2.2]; rfl
theorem inv_all {acts : List Act16} (ok : ∀ x ∈ acts, ActOk x) : ∀ i ≤ acts.length, (∀ d j, 0 ≤ j → j ≤ 4 → GoodH (runH startH acts i) d j) ∧ (∀ k ∈ keysA, 0 < i → controlsN (runH startH acts i).a (runH startH acts i).b k (runH startH acts i).down (runH startH acts i).up = 1) ∧ (runH startH acts i).down.length ≤ i ∧ (runH startH acts i).up.length ≤ i ∧ (∀ m ∈ (runH startH acts i).down ++ (runH startH acts i).up, KidOk m.key ∧ 0 ≤ m.kind ∧ m.kind ≤ 255) := fun i hi => by
  obtain ⟨h1, h2, h3⟩ := run_ok ok i hi
  refine ⟨fun d j a b => (step_ok h1 a b).2.1, fun k hk _ => h1.one1 hk, h2, h3, fun m hm => ?_⟩
  have kk : m.key ∈ keysA → KidOk m.key := fun q => by
    obtain ⟨i, hi, a, b⟩ := keys_at q
    rw [hi]; exact keyA_ok a (by omega)
  rcases List.mem_append.1 hm with q | q
  · have := h1.dk m q
    exact ⟨kk this.1, by omega, by omega⟩
  · have := h1.uk m q
    exact ⟨kk this.1, by omega, by omega⟩
end Go.Proofs.Ytjeppnhkgiljpaa
end
