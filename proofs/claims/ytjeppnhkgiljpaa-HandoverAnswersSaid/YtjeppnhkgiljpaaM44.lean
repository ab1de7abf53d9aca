/- HoP3, HoA1. -/
import Derived.Test.YtjeppnhkgiljpaaHoP2
section
namespace Go.Proofs.Ytjeppnhkgiljpaa
set_option maxRecDepth 100000
open Go.RowKit Go.Lib Go.Tk Go.Shelf Go.Vc Go.Sx
set_option linter.unusedVariables false
set_option linter.unusedSimpArgs false

section
variable {A B : BookV} {D U : List MsV}
/-- told by none, or by one to tw -/
def OutTo (out : List OutV) (tw : Int) : Prop := out = [] ∨ ∃ x, out = [x] ∧ x.dst = tw
theorem key_cases {j : Int} (h0 : 0 ≤ j) (h1 : j ≤ 4) : keyA j ∈ keysA ∨ j = 4 := by
  by_cases h : j = 4
  · exact .inr h
  · exact .inl (at_keys h0 (by omega))
theorem no_key (k k' : Kid) (m : MsV) (kind : Int) (h : k' ≠ k) (hm : m.key = k) : ¬(m.kind = kind ∧ m.key = k') := fun e => h (by rw [← e.2, hm])
theorem no_kind (k' : Kid) (m : MsV) (kind : Int) (h : m.kind ≠ kind) : ¬(m.kind = kind ∧ m.key = k') := fun e => h e.1
theorem want_4 (h : InvP ⟨A, B, D, U⟩) : wantQ B (keyA 4) = ⟨[], 1, B⟩ := by
  have hn : (lkt B.helds (keyA 4)).isSome = false := by
    rcases Bool.eq_false_or_eq_true (lkt B.helds (keyA 4)).isSome with e | e
    · exact absurd (h.he _ e) key4
    · exact e
  have hb : B.badK (keyA 4) = true := by
    unfold BookV.badK
    rw [show B.self = 1 from h.sb, show B.n = 2 from h.nb]; rfl
  have hs : B.setHE (keyA 4) = 1 := by unfold BookV.setHE; rw [hb]; rfl
  unfold wantQ
  rw [hn, hs]; rfl
theorem want_k (h : InvP ⟨A, B, D, U⟩) {k : Kid} (hk : k ∈ keysA) (h0 : k.t.c = 0) : InvP ⟨A, (wantQ B k).b, D, U ++ outsM (wantQ B k).out⟩ ∧ OutTo (wantQ B k).out 0 := by
  rcases Bool.eq_false_or_eq_true ((lkt B.helds k).isSome && (((lkt B.helds k).getD held0).here || ((lkt B.helds k).getD held0).wanted)) with e | e
  · have hw : wantQ B k = ⟨[], 6, B⟩ := by unfold wantQ; rw [e]; rfl
    rw [hw]
    exact ⟨by show InvP ⟨A, B, D, U ++ []⟩; rw [List.append_nil]; exact h, .inl rfl⟩
  · have hs : B.setHE k = 0 := h.setHE hk
    have hw : wantQ B k = ⟨[⟨k.t.c, ⟨1, k, cpn0, 0, 0⟩⟩], 0, B.setH k (wantH ((lkt B.helds k).getD held0))⟩ := by unfold wantQ; rw [e, hs]; rfl
    rw [hw]
    refine ⟨?_, .inr ⟨_, rfl, h0⟩⟩
    show InvP ⟨A, B.setH k _, D, U ++ [⟨1, k, cpn0, 0, 0⟩]⟩
    exact chB h hk (fun o p => (p.held (x' := wantH ((lkt B.helds k).getD held0)) rfl rfl).addU (no_kind _ ⟨1, k, cpn0, 0, 0⟩ _ (by show (1 : Int) ≠ 5; decide))) (fun k' hn o x p => p.addU (no_kind _ ⟨1, k, cpn0, 0, 0⟩ _ (by show (1 : Int) ≠ 5; decide))) h.dk (mem_add h.uk ⟨hk, .inl rfl⟩)
/-- what is here is handed back -/
theorem give_k (h : InvP ⟨A, B, D, U⟩) {k : Kid} (hk : k ∈ keysA) (hx : ((lkt B.helds k).getD held0).here = true) : InvP ⟨A, B.setH k (goneH ((lkt B.helds k).getD held0)), D, U ++ [⟨5, k, ((lkt B.helds k).getD held0).k, 0, 0⟩]⟩ :=
  chB h hk (fun o p => p.give hx) (fun k' hn o x p => p.addU (no_key k _ _ _ hn rfl)) h.dk (mem_add h.uk ⟨hk, .inr (.inr rfl)⟩)
theorem return_4 (h : InvP ⟨A, B, D, U⟩) : returnQ B (keyA 4) = ⟨[], 4, B⟩ := by
  have hn : (lkt B.helds (keyA 4)).isSome = false := by
    rcases Bool.eq_false_or_eq_true (lkt B.helds (keyA 4)).isSome with e | e
    · exact absurd (h.he _ e) key4
    · exact e
  unfold returnQ
  rw [hn]; rfl
theorem return_k (h : InvP ⟨A, B, D, U⟩) {k : Kid} (hk : k ∈ keysA) (h0 : k.t.c = 0) : InvP ⟨A, (returnQ B k).b, D, U ++ outsM (returnQ B k).out⟩ ∧ OutTo (returnQ B k).out 0 := by
  have no : ∀ e, returnQ B k = ⟨[], e, B⟩ → InvP ⟨A, (returnQ B k).b, D, U ++ outsM (returnQ B k).out⟩ ∧ OutTo (returnQ B k).out 0 := fun e hw => by
    rw [hw]
    exact ⟨by show InvP ⟨A, B, D, U ++ []⟩; rw [List.append_nil]; exact h, .inl rfl⟩
  rcases Bool.eq_false_or_eq_true (lkt B.helds k).isSome with e | e
  · rcases Bool.eq_false_or_eq_true ((lkt B.helds k).getD held0).here with e2 | e2
    · rcases Bool.eq_false_or_eq_true (decide (((lkt B.helds k).getD held0).k.s = 1)) with e3 | e3
      · have hw : returnQ B k = ⟨[giveO k ((lkt B.helds k).getD held0)], 0, B.setH k (goneH ((lkt B.helds k).getD held0))⟩ := by unfold returnQ; rw [e, e2, e3]; rfl
        rw [hw]
        exact ⟨give_k h hk e2, .inr ⟨_, rfl, h0⟩⟩
      · exact no 6 (by unfold returnQ; rw [e, e2, e3]; rfl)
    · exact no 160 (by unfold returnQ; rw [e, e2]; rfl)
  · exact no 4 (by unfold returnQ; rw [e]; rfl)
theorem recall_4 (h : InvP ⟨A, B, D, U⟩) : recallQ A (keyA 4) = ⟨[], 4, A⟩ := by
  have hn : (lkt A.owns (keyA 4)).isSome = false := by
    rcases Bool.eq_false_or_eq_true (lkt A.owns (keyA 4)).isSome with e | e
    · exact absurd (h.ow _ e) key4
    · exact e
  unfold recallQ
  rw [hn]; rfl
theorem recall_k (h : InvP ⟨A, B, D, U⟩) {k : Kid} (hk : k ∈ keysA) : InvP ⟨(recallQ A k).b, B, D ++ outsM (recallQ A k).out, U⟩ ∧ OutTo (recallQ A k).out 1 := by
  obtain ⟨o, ho, hp⟩ := h.one k hk
  have ho : lkt A.owns k = some o := ho
  rcases Bool.eq_false_or_eq_true (!o.away || (o.paid || o.asked)) with e | e
  · have hw : recallQ A k = ⟨[], 6, A⟩ := by unfold recallQ; simp only [ho, Option.getD_some, e]; rfl
    rw [hw]
    exact ⟨by show InvP ⟨A, B, D ++ [], U⟩; rw [List.append_nil]; exact h, .inl rfl⟩
  · have hw : recallQ A k = ⟨[⟨o.dst, ⟨4, k, cpn0, 0, 0⟩⟩], 0, A.setO k (askO o)⟩ := by unfold recallQ; simp only [ho, Option.getD_some, e]; rfl
    have ha : o.away = true := by
      rcases Bool.eq_false_or_eq_true o.away with q | q
      · exact q
      · rw [q] at e; cases e
    rw [hw]
    exact ⟨chA h hk ho ((hp.own (o' := askO o) rfl rfl rfl).addD (no_kind _ ⟨4, k, cpn0, 0, 0⟩ _ (by show (4 : Int) ≠ 2; decide))) (fun k' hn o x p => p.addD (no_kind _ ⟨4, k, cpn0, 0, 0⟩ _ (by show (4 : Int) ≠ 2; decide))) (mem_add h.dk ⟨hk, .inr (.inr rfl)⟩) h.uk, .inr ⟨_, rfl, (hp.gone ha).1⟩⟩
theorem tail_of {p : MsV → Prop} {m : MsV} {l : List MsV} (h : ∀ x ∈ m :: l, p x) : ∀ x ∈ l, p x := fun x hx => h x (List.mem_cons_of_mem _ hx)
theorem dropD_k {m : MsV} (h : InvP ⟨A, B, m :: D, U⟩) (hm : m.kind ≠ 2) : InvP ⟨A, B, D, U⟩ := chM h (fun k' o x p => p.dropD (no_kind _ _ _ hm)) (tail_of h.dk) h.uk
theorem dropU_k {m : MsV} (h : InvP ⟨A, B, D, m :: U⟩) (hm : m.kind ≠ 5) : InvP ⟨A, B, D, U⟩ := chM h (fun k' o x p => p.dropU (no_kind _ _ _ hm)) h.dk (tail_of h.uk)
theorem isAway_nil {c : Int} {k : Kid} (h : B.owns = []) : isAway B c k = false := by unfold isAway; rw [h]; rfl
theorem isHeld_nil {c : Int} {k : Kid} (h : B.helds = []) : isHeld B c k = false := by unfold isHeld; rw [h]; rfl
theorem app_nil : InvP ⟨A, B, D, U⟩ → InvP ⟨A, B, D, U ++ outsM []⟩ := fun h => by rw [show outsM [] = [] from rfl, List.append_nil]; exact h
theorem app_nilD : InvP ⟨A, B, D, U⟩ → InvP ⟨A, B, D ++ outsM [], U⟩ := fun h => by rw [show outsM [] = [] from rfl, List.append_nil]; exact h
theorem hearD_k {m : MsV} (h : InvP ⟨A, B, m :: D, U⟩) : InvP ⟨A, (hearQ B 0 m).b, D, U ++ outsM (hearQ B 0 m).out⟩ ∧ (hearQ B 0 m).e = 0 ∧ OutTo (hearQ B 0 m).out 0 := by
  obtain ⟨hk, kinds⟩ := h.dk m List.mem_cons_self
  obtain ⟨i, hi, -, -⟩ := keys_at hk
  have hc : m.key.t.c = 0 := by rw [hi]; rfl
  have hbad : badHear B 0 m.kind = false := by
    unfold badHear
    rw [show B.self = 1 from h.sb, show B.n = 2 from h.nb]
    rcases kinds with e | e | e <;> rw [e] <;> rfl
  have hq : hearQ B 0 m = hearDo B 0 m := by unfold hearQ; rw [hbad]; rfl
  rw [hq]
  have hob : B.owns = [] := h.ob
  rcases kinds with e | e | e
  · have hd : hearDo B 0 m = ⟨[], (hgrantQ B 0 m).e, (hgrantQ B 0 m).b⟩ := by unfold hearDo; rw [e]; rfl
    rw [hd]
    obtain ⟨o, ho, hp⟩ := h.one m.key hk
    obtain ⟨l1, l2, -⟩ := hp.land e rfl
    have l1 : ((lkt B.helds m.key).getD held0).here = false := l1
    have l2 : ((lkt B.helds m.key).getD held0).k.n < m.k.n := l2
    have hg : hgrantQ B 0 m = ⟨[], 0, B.setH m.key (newH m.k)⟩ := by
      unfold hgrantQ
      simp only [l1, hc, show B.setHE m.key = 0 from h.setHE hk, decide_eq_false (show ¬ m.k.n ≤ ((lkt B.helds m.key).getD held0).k.n by omega), Bool.or_false, Bool.and_false]
      rfl
    rw [hg]
    exact ⟨app_nil (chB h hk (fun o p => (p.land e rfl).2.2) (fun k' hn o x p => p.dropD (no_key _ _ _ _ hn rfl)) (tail_of h.dk) h.uk), rfl, .inl rfl⟩
  · have hd : hearDo B 0 m = ⟨[], 0, hrefB B 0 m.key⟩ := by unfold hearDo; rw [e]; rfl
    rw [hd]
    have hr : hrefB B 0 m.key = hrefH B 0 m.key := by
      have ho : (hrefH B 0 m.key).owns = [] := by
        unfold hrefH
        cases isHeld B 0 m.key
        · exact hob
        · show (B.setH _ _).owns = []; rw [show B.setH m.key _ = _ from h.setH hk _]; exact hob
      unfold hrefB; rw [isAway_nil ho]; rfl
    rw [hr]
    have h' := dropD_k h (by rw [e]; decide)
    refine ⟨app_nil ?_, rfl, .inl rfl⟩
    unfold hrefH
    cases isHeld B 0 m.key
    · exact h'
    · exact chB h' hk (fun o p => p.held (x' := notH ((lkt B.helds m.key).getD held0)) rfl rfl) (fun k' hn o x p => p) h'.dk h'.uk
  · have hd : hearDo B 0 m = hrecallQ B 0 m.key := by unfold hearDo; rw [e]; rfl
    rw [hd]
    have h' := dropD_k h (by rw [e]; decide)
    rcases Bool.eq_false_or_eq_true (!isHeld B 0 m.key || !((lkt B.helds m.key).getD held0).here) with e1 | e1
    · have hw : hrecallQ B 0 m.key = ⟨[], 0, B⟩ := by unfold hrecallQ; simp only [e1]; rfl
      rw [hw]
      exact ⟨app_nil h', rfl, .inl rfl⟩
    · have hx : ((lkt B.helds m.key).getD held0).here = true := by
        rcases Bool.eq_false_or_eq_true ((lkt B.helds m.key).getD held0).here with q | q
        · exact q
        · rw [q] at e1; simp at e1
      rcases Bool.eq_false_or_eq_true (decide (((lkt B.helds m.key).getD held0).k.s = 1)) with e3 | e3
      · have hw : hrecallQ B 0 m.key = ⟨[giveO m.key ((lkt B.helds m.key).getD held0)], 0, B.setH m.key (goneH ((lkt B.helds m.key).getD held0))⟩ := by unfold hrecallQ; simp only [e1, e3]; rfl
        rw [hw]
        exact ⟨give_k h' hk hx, rfl, .inr ⟨_, rfl, hc⟩⟩
      · have hw : hrecallQ B 0 m.key = ⟨[refO 0 m.key 6], 0, B⟩ := by unfold hrecallQ; simp only [e1, e3]; rfl
        rw [hw]
        exact ⟨chM h' (fun k' o x p => p.addU (no_kind _ ⟨3, m.key, cpn0, 0, 6⟩ _ (by show (3 : Int) ≠ 5; decide))) h'.dk (mem_add h'.uk ⟨hk, .inr (.inl rfl)⟩), rfl, .inr ⟨_, rfl, rfl⟩⟩
theorem hearU_k {m : MsV} (h : InvP ⟨A, B, D, m :: U⟩) : InvP ⟨(hearQ A 1 m).b, B, D ++ outsM (hearQ A 1 m).out, U⟩ ∧ (hearQ A 1 m).e = 0 ∧ OutTo (hearQ A 1 m).out 1 := by
  obtain ⟨hk, kinds⟩ := h.uk m List.mem_cons_self
  obtain ⟨i, hi, -, -⟩ := keys_at hk
  have hbad : badHear A 1 m.kind = false := by
    unfold badHear
    rw [show A.self = 0 from h.sa, show A.n = 2 from h.na]
    rcases kinds with e | e | e <;> rw [e] <;> rfl
  have hq : hearQ A 1 m = hearDo A 1 m := by unfold hearQ; rw [hbad]; rfl
  rw [hq]
  have hha : A.helds = [] := h.ha
  obtain ⟨o, ho, hp⟩ := h.one m.key hk
  have ho : lkt A.owns m.key = some o := ho
  rcases kinds with e | e | e
  · have hd : hearDo A 1 m = hwantQ A 1 m.key := by unfold hearDo; rw [e]; rfl
    rw [hd]
    have h' := dropU_k h (by rw [e]; decide)
    have hp' := hp.dropU (no_kind _ _ _ (by rw [e]; decide))
    have ref : ∀ c, hwantQ A 1 m.key = ⟨[refO 1 m.key c], 0, A⟩ → InvP ⟨(hwantQ A 1 m.key).b, B, D ++ outsM (hwantQ A 1 m.key).out, U⟩ ∧ (hwantQ A 1 m.key).e = 0 ∧ OutTo (hwantQ A 1 m.key).out 1 := fun c hw => by
      rw [hw]
      exact ⟨chM h' (fun k' o x p => p.addD (no_kind _ ⟨3, m.key, cpn0, 0, c⟩ _ (by show (3 : Int) ≠ 2; decide))) (mem_add h'.dk ⟨hk, .inr (.inl rfl)⟩) h'.uk, rfl, .inr ⟨_, rfl, rfl⟩⟩
    have hs : (lkt A.owns m.key).isSome = true := by rw [ho]; rfl
    rcases Bool.eq_false_or_eq_true o.away with a1 | a1
    · exact ref 160 (by unfold hwantQ; simp only [ho, Option.getD_some, a1]; rfl)
    rcases Bool.eq_false_or_eq_true (decide (o.k.l.c = 1)) with a2 | a2
    · rcases Bool.eq_false_or_eq_true (decide (o.k.s = 1)) with a3 | a3
      · rcases Bool.eq_false_or_eq_true (decide (o.k.n = 4294967295)) with a4 | a4
        · exact ref 3 (by unfold hwantQ; simp only [ho, Option.getD_some, a1, a2, a3, a4]; rfl)
        · have hw : hwantQ A 1 m.key = ⟨[⟨1, ⟨2, m.key, (givenO o 1).k, 0, 0⟩⟩], 0, A.setO m.key (givenO o 1)⟩ := by unfold hwantQ; simp only [ho, Option.getD_some, a1, a2, a3, a4]; rfl
          rw [hw]
          exact ⟨chA h' hk ho (hp'.grant a1 (of_decide_eq_false a4)) (fun k' hn o x p => p.addD (no_key m.key _ _ _ hn rfl)) (mem_add h'.dk ⟨hk, .inl rfl⟩) h'.uk, rfl, .inr ⟨_, rfl, rfl⟩⟩
      · exact ref 6 (by unfold hwantQ; simp only [ho, Option.getD_some, a1, a2, a3]; rfl)
    · exact ref 1 (by unfold hwantQ; simp only [ho, Option.getD_some, a1, a2]; rfl)
  · have hd : hearDo A 1 m = ⟨[], 0, hrefB A 1 m.key⟩ := by unfold hearDo; rw [e]; rfl
    rw [hd]
    have h' := dropU_k h (by rw [e]; decide)
    have hp' := hp.dropU (no_kind _ _ _ (by rw [e]; decide))
    have hr : hrefH A 1 m.key = A := by unfold hrefH; rw [isHeld_nil hha]; rfl
    refine ⟨app_nilD ?_, rfl, .inl rfl⟩
    show InvP ⟨hrefB A 1 m.key, B, D, U⟩
    unfold hrefB
    rw [hr]
    cases isAway A 1 m.key
    · exact h'
    · rw [ho]
      exact chA h' hk ho (hp'.own (o' := notO o) rfl rfl rfl) (fun k' hn o x p => p) h'.dk h'.uk
  · have hd : hearDo A 1 m = ⟨[], 0, hretB A 1 m⟩ := by unfold hearDo; rw [e]; rfl
    rw [hd]
    obtain ⟨b1, b2, b3, b4⟩ := hp.back e rfl
    have hw : hretB A 1 m = A.setO m.key (backO o) := by
      unfold hretB isAway
      simp only [ho, Option.getD_some, b1, decide_eq_true b2, decide_eq_true b3]; rfl
    rw [hw]
    exact ⟨app_nilD (chA h hk ho b4 (fun k' hn o x p => p.dropU (no_key _ _ _ _ hn rfl)) h.dk (tail_of h.uk)), rfl, .inl rfl⟩
end
end Go.Proofs.Ytjeppnhkgiljpaa
end
section
namespace Go.Proofs.Ytjeppnhkgiljpaa
set_option maxRecDepth 100000
open Go.RowKit Go.Lib Go.Tk Go.Shelf Go.Vc Go.Sx
set_option linter.unusedVariables false
set_option linter.unusedSimpArgs false

/-- how many Recalls of a coupon are behind its first Grant -/
def recB (k : Kid) : List MsV → Nat
  | [] => 0
  | m :: l => if m.kind = 2 ∧ m.key = k then nM 4 k l else recB k l
theorem recB_none (k : Kid) : ∀ {l : List MsV}, nM 2 k l = 0 → recB k l = 0
  | [], _ => rfl
  | m :: l, h => by
    by_cases e : m.kind = 2 ∧ m.key = k
    · rw [nM_drop1 2 k l e] at h; omega
    · rw [nM_drop 2 k l e] at h
      show (if _ then _ else _) = 0
      rw [if_neg e]; exact recB_none k h
theorem recB_le (k : Kid) (m : MsV) : ∀ l : List MsV, recB k l ≤ recB k (l ++ [m])
  | [] => Nat.zero_le _
  | y :: l => by
    show (if _ then nM 4 k l else recB k l) ≤ (if _ then nM 4 k (l ++ [m]) else recB k (l ++ [m]))
    by_cases e : y.kind = 2 ∧ y.key = k
    · rw [if_pos e, if_pos e, nM_append]; omega
    · rw [if_neg e, if_neg e]; exact recB_le k m l
theorem recB_rec (k : Kid) {m : MsV} (hm : m.kind = 4 ∧ m.key = k) : ∀ {l : List MsV}, 0 < nM 2 k l → 0 < recB k (l ++ [m])
  | [], h => by cases h
  | y :: l, h => by
    show 0 < (if _ then nM 4 k (l ++ [m]) else recB k (l ++ [m]))
    by_cases e : y.kind = 2 ∧ y.key = k
    · rw [if_pos e, nM_append]
      have : nM 4 k [m] = 1 := by show (if _ then 1 else 0) + 0 = 1; rw [if_pos hm]
      omega
    · rw [if_neg e]
      rw [nM_drop 2 k l e] at h
      exact recB_rec k hm h
theorem recB_ne (k : Kid) {m : MsV} (hm : m.key ≠ k) : ∀ l : List MsV, recB k (l ++ [m]) = recB k l
  | [] => by show (if _ then _ else _) = _; rw [if_neg (fun e => hm e.2)]
  | y :: l => by
    show (if _ then nM 4 k (l ++ [m]) else recB k (l ++ [m])) = (if _ then nM 4 k l else recB k l)
    by_cases e : y.kind = 2 ∧ y.key = k
    · rw [if_pos e, if_pos e, nM_add 4 k l (fun e => hm e.2)]
    · rw [if_neg e, if_neg e]; exact recB_ne k hm l
theorem recB_drop (k : Kid) {m : MsV} (hm : ¬(m.kind = 2 ∧ m.key = k)) (l : List MsV) : recB k (m :: l) = recB k l := by
  show (if _ then _ else _) = _; rw [if_neg hm]
theorem recB_drop1 (k : Kid) {m : MsV} (hm : m.kind = 2 ∧ m.key = k) (l : List MsV) : recB k (m :: l) = nM 4 k l := by
  show (if _ then _ else _) = _; rw [if_pos hm]
structure AnsP (o : OwnV) (x : HeldV) (k : Kid) (D U : List MsV) : Prop where
  p : OneP o x k D U
  cnt : nM 1 k U + nM 2 k D + nM 3 k D = if x.wanted = true then 1 else 0
  hw : x.here = true → x.wanted = false
  bl : x.billed = false
  ask : o.asked = true → o.away = true ∧ (0 < nM 2 k D → 0 < recB k D) ∧ (x.here = true → 0 < nM 4 k D)
  nr : nM 3 k U = 0
  gs : ∀ m ∈ D, m.kind = 2 → m.key = k → m.k.s = 1
  hs : x.here = true → x.k.s = 1
section
variable {o : OwnV} {x : HeldV} {k : Kid} {D U : List MsV} {m : MsV}
theorem nk (kind : Int) (h : m.key ≠ k) : ¬(m.kind = kind ∧ m.key = k) := fun e => h e.2
theorem nd (kind : Int) (h : m.kind ≠ kind) : ¬(m.kind = kind ∧ m.key = k) := fun e => h e.1
theorem AnsP.addD_ne (h : AnsP o x k D U) (hm : m.key ≠ k) : AnsP o x k (D ++ [m]) U :=
  ⟨h.p.addD (nk 2 hm), by rw [nM_add 2 k D (nk 2 hm), nM_add 3 k D (nk 3 hm)]; exact h.cnt, h.hw, h.bl, by rw [nM_add 2 k D (nk 2 hm), nM_add 4 k D (nk 4 hm), recB_ne k hm]; exact h.ask, h.nr,
    fun m' hm' e1 e2 => (List.mem_append.1 hm').elim (fun q => h.gs m' q e1 e2) (fun q => by rw [List.mem_singleton] at q; subst q; exact absurd e2 hm), h.hs⟩
theorem AnsP.addU_ne (h : AnsP o x k D U) (hm : m.key ≠ k) : AnsP o x k D (U ++ [m]) :=
  ⟨h.p.addU (nk 5 hm), by rw [nM_add 1 k U (nk 1 hm)]; exact h.cnt, h.hw, h.bl, h.ask, by rw [nM_add 3 k U (nk 3 hm)]; exact h.nr, h.gs, h.hs⟩
theorem AnsP.dropD_ne (h : AnsP o x k (m :: D) U) (hm : m.key ≠ k) : AnsP o x k D U :=
  ⟨h.p.dropD (nk 2 hm), by have := h.cnt; rwa [nM_drop 2 k D (nk 2 hm), nM_drop 3 k D (nk 3 hm)] at this, h.hw, h.bl, by have := h.ask; rwa [nM_drop 2 k D (nk 2 hm), nM_drop 4 k D (nk 4 hm), recB_drop k (nk 2 hm)] at this, h.nr,
    fun m' hm' e1 e2 => h.gs m' (List.mem_cons_of_mem _ hm') e1 e2, h.hs⟩
theorem AnsP.dropU_ne (h : AnsP o x k D (m :: U)) (hm : m.key ≠ k) : AnsP o x k D U :=
  ⟨h.p.dropU (nk 5 hm), by have := h.cnt; rwa [nM_drop 1 k U (nk 1 hm)] at this, h.hw, h.bl, h.ask, by have := h.nr; rwa [nM_drop 3 k U (nk 3 hm)] at this, h.gs, h.hs⟩
/-- it is asked for -/
theorem AnsP.want (h : AnsP o x k D U) (h1 : x.here = false) (h2 : x.wanted = false) : AnsP o (wantH x) k D (U ++ [⟨1, k, cpn0, 0, 0⟩]) := by
  have n1 := nM_add1 1 k U (m := ⟨1, k, cpn0, 0, 0⟩) ⟨rfl, rfl⟩
  have n3 := nM_add 3 k U (m := ⟨1, k, cpn0, 0, 0⟩) (nd 3 (by show (1 : Int) ≠ 3; decide))
  have hc := h.cnt
  rw [if_neg (by rw [h2]; intro e; cases e)] at hc
  refine ⟨(h.p.held (x' := wantH x) rfl rfl).addU (nd 5 (by show (1 : Int) ≠ 5; decide)), ?_, (fun e => by have e : x.here = true := e; rw [h1] at e; cases e), h.bl, h.ask, by rw [n3]; exact h.nr, h.gs, h.hs⟩
  rw [n1, if_pos (show (wantH x).wanted = true from rfl)]; omega
/-- it is handed back -/
theorem AnsP.give (h : AnsP o x k D U) (hx : x.here = true) : AnsP o (goneH x) k D (U ++ [⟨5, k, x.k, 0, 0⟩]) := by
  have n1 := nM_add 1 k U (m := ⟨5, k, x.k, 0, 0⟩) (nd 1 (by show (5 : Int) ≠ 1; decide))
  have n3 := nM_add 3 k U (m := ⟨5, k, x.k, 0, 0⟩) (nd 3 (by show (5 : Int) ≠ 3; decide))
  exact ⟨h.p.give hx, by rw [n1]; exact h.cnt, (fun e => by cases e), h.bl, fun e => ⟨(h.ask e).1, (h.ask e).2.1, fun e => by cases e⟩, by rw [n3]; exact h.nr, h.gs, fun e => by cases e⟩
theorem AnsP.recallGive (h : AnsP o x k (m :: D) U) (hk : m.kind = 4) (hx : x.here = true) : AnsP o (goneH x) k D (U ++ [⟨5, k, x.k, 0, 0⟩]) := by
  have n1 := nM_add 1 k U (m := ⟨5, k, x.k, 0, 0⟩) (nd 1 (by show (5 : Int) ≠ 1; decide))
  have n3 := nM_add 3 k U (m := ⟨5, k, x.k, 0, 0⟩) (nd 3 (by show (5 : Int) ≠ 3; decide))
  have d2 := nM_drop 2 k D (m := m) (nd 2 (by rw [hk]; decide))
  have d3 := nM_drop 3 k D (m := m) (nd 3 (by rw [hk]; decide))
  have r := recB_drop k (m := m) (nd 2 (by rw [hk]; decide)) D
  have hc := h.cnt
  have ha := h.ask
  rw [d2, d3] at hc
  rw [d2, r] at ha
  exact ⟨(h.p.dropD (nd 2 (by rw [hk]; decide))).give hx, by rw [n1]; exact hc, (fun e => by cases e), h.bl, fun e => ⟨(ha e).1, (ha e).2.1, fun e => by cases e⟩, by rw [n3]; exact h.nr, fun m' hm' e1 e2 => h.gs m' (List.mem_cons_of_mem _ hm') e1 e2, fun e => by cases e⟩
theorem AnsP.recallNo (h : AnsP o x k (m :: D) U) (hk : m.kind = 4) (hx : x.here = false) : AnsP o x k D U := by
  have d2 := nM_drop 2 k D (m := m) (nd 2 (by rw [hk]; decide))
  have d3 := nM_drop 3 k D (m := m) (nd 3 (by rw [hk]; decide))
  have r := recB_drop k (m := m) (nd 2 (by rw [hk]; decide)) D
  have hc := h.cnt
  have ha := h.ask
  rw [d2, d3] at hc
  rw [d2, r] at ha
  exact ⟨h.p.dropD (nd 2 (by rw [hk]; decide)), hc, h.hw, h.bl, fun e => ⟨(ha e).1, (ha e).2.1, fun e => by rw [hx] at e; cases e⟩, h.nr, fun m' hm' e1 e2 => h.gs m' (List.mem_cons_of_mem _ hm') e1 e2, h.hs⟩
/-- it is asked back -/
theorem AnsP.recall (h : AnsP o x k D U) (ha : o.away = true) : AnsP (askO o) x k (D ++ [⟨4, k, cpn0, 0, 0⟩]) U := by
  have n2 := nM_add 2 k D (m := ⟨4, k, cpn0, 0, 0⟩) (nd 2 (by show (4 : Int) ≠ 2; decide))
  have n3 := nM_add 3 k D (m := ⟨4, k, cpn0, 0, 0⟩) (nd 3 (by show (4 : Int) ≠ 3; decide))
  have n4 := nM_add1 4 k D (m := ⟨4, k, cpn0, 0, 0⟩) ⟨rfl, rfl⟩
  refine ⟨(h.p.own (o' := askO o) rfl rfl rfl).addD (nd 2 (by show (4 : Int) ≠ 2; decide)), by rw [n2, n3]; exact h.cnt, h.hw, h.bl, fun _ => ⟨ha, fun e => recB_rec k (m := ⟨4, k, cpn0, 0, 0⟩) ⟨rfl, rfl⟩ (by rwa [n2] at e), fun _ => by rw [n4]; omega⟩, h.nr, ?_, h.hs⟩
  intro m' hm' e1 e2
  rcases List.mem_append.1 hm' with q | q
  · exact h.gs m' q e1 e2
  · rw [List.mem_singleton] at q; subst q; cases e1
/-- a Grant comes -/
theorem AnsP.land (h : AnsP o x k (m :: D) U) (h1 : m.kind = 2) (h2 : m.key = k) : x.here = false ∧ x.k.n < m.k.n ∧ AnsP o (newH m.k) k D U := by
  obtain ⟨l1, l2, l3⟩ := h.p.land h1 h2
  have d2 := nM_drop1 2 k D (m := m) ⟨h1, h2⟩
  have d3 := nM_drop 3 k D (m := m) (nd 3 (by rw [h1]; decide))
  have r := recB_drop1 k (m := m) ⟨h1, h2⟩ D
  have hc := h.cnt
  rw [d2, d3] at hc
  have hle : (if x.wanted = true then 1 else 0 : Nat) ≤ 1 := by split <;> omega
  refine ⟨l1, l2, l3, ?_, fun _ => rfl, rfl, fun e => ?_, h.nr, fun m' hm' e1 e2 => h.gs m' (List.mem_cons_of_mem _ hm') e1 e2, fun _ => h.gs m List.mem_cons_self h1 h2⟩
  · rw [if_neg (show ¬ (newH m.k).wanted = true by intro e; cases e)]; omega
  · obtain ⟨a1, a2, a3⟩ := h.ask e
    rw [d2, r] at a2
    have a4 := a2 (by omega)
    have hg := l3.gone a1
    rw [if_pos (show (newH m.k).here = true from rfl)] at hg
    exact ⟨a1, fun e => by omega, fun _ => a4⟩
/-- a Refuse comes -/
theorem AnsP.refused (h : AnsP o x k (m :: D) U) (h1 : m.kind = 3) (h2 : m.key = k) : x.wanted = true ∧ AnsP o (notH x) k D U := by
  have d2 := nM_drop 2 k D (m := m) (nd 2 (by rw [h1]; decide))
  have d3 := nM_drop1 3 k D (m := m) ⟨h1, h2⟩
  have d4 := nM_drop 4 k D (m := m) (nd 4 (by rw [h1]; decide))
  have r := recB_drop k (m := m) (nd 2 (by rw [h1]; decide)) D
  have hc := h.cnt
  have ha := h.ask
  rw [d2, d3] at hc
  rw [d2, d4, r] at ha
  have hw : x.wanted = true := by
    rcases Bool.eq_false_or_eq_true x.wanted with e | e
    · exact e
    · rw [if_neg (by rw [e]; intro q; cases q)] at hc; omega
  rw [if_pos hw] at hc
  refine ⟨hw, (h.p.dropD (nd 2 (by rw [h1]; decide))).held (x' := notH x) rfl rfl, ?_, fun _ => rfl, h.bl, ha, h.nr, fun m' hm' e1 e2 => h.gs m' (List.mem_cons_of_mem _ hm') e1 e2, h.hs⟩
  rw [if_neg (show ¬ (notH x).wanted = true by intro e; cases e)]; omega
/-- a Want comes, and is refused -/
theorem AnsP.wantNo (h : AnsP o x k D (m :: U)) (h1 : m.kind = 1) (h2 : m.key = k) (c : Int) : AnsP o x k (D ++ [⟨3, k, cpn0, 0, c⟩]) U := by
  have u1 := nM_drop1 1 k U (m := m) ⟨h1, h2⟩
  have u3 := nM_drop 3 k U (m := m) (nd 3 (by rw [h1]; decide))
  have n2 := nM_add 2 k D (m := ⟨3, k, cpn0, 0, c⟩) (nd 2 (by show (3 : Int) ≠ 2; decide))
  have n3 := nM_add1 3 k D (m := ⟨3, k, cpn0, 0, c⟩) ⟨rfl, rfl⟩
  have n4 := nM_add 4 k D (m := ⟨3, k, cpn0, 0, c⟩) (nd 4 (by show (3 : Int) ≠ 4; decide))
  have hc := h.cnt
  have hr := h.nr
  rw [u1] at hc
  rw [u3] at hr
  refine ⟨(h.p.dropU (nd 5 (by rw [h1]; decide))).addD (nd 2 (by show (3 : Int) ≠ 2; decide)), by rw [n2, n3]; omega, h.hw, h.bl, fun e => ?_, hr, ?_, h.hs⟩
  · obtain ⟨a1, a2, a3⟩ := h.ask e
    rw [n2, n4]
    exact ⟨a1, fun q => Nat.lt_of_lt_of_le (a2 q) (recB_le k _ D), a3⟩
  · intro m' hm' e1 e2
    rcases List.mem_append.1 hm' with q | q
    · exact h.gs m' q e1 e2
    · rw [List.mem_singleton] at q; subst q; cases e1
/-- a Want comes, and is granted -/
theorem AnsP.grant (h : AnsP o x k D (m :: U)) (h1 : m.kind = 1) (h2 : m.key = k) (ha : o.away = false) (hs : o.k.s = 1) (hn : o.k.n ≠ 4294967295) : AnsP (givenO o 1) x k (D ++ [⟨2, k, (givenO o 1).k, 0, 0⟩]) U := by
  have u1 := nM_drop1 1 k U (m := m) ⟨h1, h2⟩
  have u3 := nM_drop 3 k U (m := m) (nd 3 (by rw [h1]; decide))
  have n2 := nM_add1 2 k D (m := ⟨2, k, (givenO o 1).k, 0, 0⟩) ⟨rfl, rfl⟩
  have n3 := nM_add 3 k D (m := ⟨2, k, (givenO o 1).k, 0, 0⟩) (nd 3 (by show (2 : Int) ≠ 3; decide))
  have hc := h.cnt
  have hr := h.nr
  rw [u1] at hc
  rw [u3] at hr
  refine ⟨(h.p.dropU (nd 5 (by rw [h1]; decide))).grant ha hn, by rw [n2, n3]; omega, h.hw, h.bl, fun e => ?_, hr, ?_, h.hs⟩
  · have := (h.ask e).1
    rw [ha] at this; cases this
  · intro m' hm' e1 e2
    rcases List.mem_append.1 hm' with q | q
    · exact h.gs m' q e1 e2
    · rw [List.mem_singleton] at q; subst q; exact hs
/-- a Return comes -/
theorem AnsP.back (h : AnsP o x k D (m :: U)) (h1 : m.kind = 5) (h2 : m.key = k) : o.away = true ∧ o.dst = 1 ∧ o.k.n = m.k.n ∧ AnsP (backO o) x k D U := by
  obtain ⟨b1, b2, b3, b4⟩ := h.p.back h1 h2
  have u1 := nM_drop 1 k U (m := m) (nd 1 (by rw [h1]; decide))
  have u3 := nM_drop 3 k U (m := m) (nd 3 (by rw [h1]; decide))
  have hc := h.cnt
  have hr := h.nr
  rw [u1] at hc
  rw [u3] at hr
  exact ⟨b1, b2, b3, b4, hc, h.hw, h.bl, (fun e => by cases e), hr, h.gs, h.hs⟩
end
end Go.Proofs.Ytjeppnhkgiljpaa
end
