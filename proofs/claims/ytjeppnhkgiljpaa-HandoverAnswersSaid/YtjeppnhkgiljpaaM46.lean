/- HoP4, HoA3. -/
import Derived.Test.YtjeppnhkgiljpaaM44
import Derived.Test.YtjeppnhkgiljpaaHoA2
section
namespace Go.Proofs.Ytjeppnhkgiljpaa
set_option maxRecDepth 100000
open Go.RowKit Go.Lib Go.Tk Go.Shelf Go.Vc Go.Sx
set_option linter.unusedVariables false
set_option linter.unusedSimpArgs false

theorem out_len {out : List OutV} {tw : Int} (h : OutTo out tw) : (outsM out).length ≤ 1 := by
  rcases h with rfl | ⟨x, rfl, -⟩ <;> simp [outsM]
theorem step_ok {σ : HSt} (h : InvP σ) {d j : Int} (h0 : 0 ≤ j) (h1 : j ≤ 4) : InvP (stepH σ d j) ∧ GoodH σ d j ∧ (stepH σ d j).down.length ≤ σ.down.length + 1 ∧ (stepH σ d j).up.length ≤ σ.up.length + 1 := by
  obtain ⟨A, B, D, U⟩ := σ
  have fin0 : ∀ B' out D', D'.length ≤ D.length + 1 → stepH ⟨A, B, D, U⟩ d j = ⟨A, B', D', U ++ outsM out⟩ → outH ⟨A, B, D, U⟩ d j = out → eH ⟨A, B, D, U⟩ d = 0 → toH d = 0 → (InvP ⟨A, B', D', U ++ outsM out⟩ ∧ OutTo out 0) →
      InvP (stepH ⟨A, B, D, U⟩ d j) ∧ GoodH ⟨A, B, D, U⟩ d j ∧ (stepH ⟨A, B, D, U⟩ d j).down.length ≤ D.length + 1 ∧ (stepH ⟨A, B, D, U⟩ d j).up.length ≤ U.length + 1 := by
    intro B' out D' hD e1 e2 e3 e4 key
    have hl := out_len key.2
    rw [e1]
    exact ⟨key.1, ⟨e3, by rw [e2, e4]; exact key.2⟩, hD, by show (U ++ outsM out).length ≤ _; rw [List.length_append]; omega⟩
  have fin1 : ∀ A' out U', U'.length ≤ U.length + 1 → stepH ⟨A, B, D, U⟩ d j = ⟨A', B, D ++ outsM out, U'⟩ → outH ⟨A, B, D, U⟩ d j = out → eH ⟨A, B, D, U⟩ d = 0 → toH d = 1 → (InvP ⟨A', B, D ++ outsM out, U'⟩ ∧ OutTo out 1) →
      InvP (stepH ⟨A, B, D, U⟩ d j) ∧ GoodH ⟨A, B, D, U⟩ d j ∧ (stepH ⟨A, B, D, U⟩ d j).down.length ≤ D.length + 1 ∧ (stepH ⟨A, B, D, U⟩ d j).up.length ≤ U.length + 1 := by
    intro A' out U' hU e1 e2 e3 e4 key
    have hl := out_len key.2
    rw [e1]
    exact ⟨key.1, ⟨e3, by rw [e2, e4]; exact key.2⟩, by show (D ++ outsM out).length ≤ _; rw [List.length_append]; omega, hU⟩
  by_cases d0 : d = 0
  · refine fin0 (wantQ B (keyA j)).b (wantQ B (keyA j)).out D (by omega) (by unfold stepH; rw [if_pos d0]) (by unfold outH; rw [if_pos d0]) (by unfold eH; rw [if_pos d0]) (by unfold toH; rw [if_pos d0]) ?_
    rcases key_cases h0 h1 with q | rfl
    · exact want_k h q rfl
    · rw [want_4 h]; exact ⟨app_nil h, .inl rfl⟩
  by_cases d1 : d = 1
  · refine fin0 (returnQ B (keyA j)).b (returnQ B (keyA j)).out D (by omega) (by unfold stepH; rw [if_neg d0, if_pos d1]) (by unfold outH; rw [if_neg d0, if_pos d1]) (by unfold eH; rw [if_neg d0, if_pos d1]) (by unfold toH; rw [if_neg d0, if_pos d1]) ?_
    rcases key_cases h0 h1 with q | rfl
    · exact return_k h q rfl
    · rw [return_4 h]; exact ⟨app_nil h, .inl rfl⟩
  by_cases d2 : d = 2
  · refine fin1 (recallQ A (keyA j)).b (recallQ A (keyA j)).out U (by omega) (by unfold stepH; rw [if_neg d0, if_neg d1, if_pos d2]) (by unfold outH; rw [if_neg d0, if_neg d1, if_pos d2]) (by unfold eH; rw [if_neg d0, if_neg d1, if_pos d2]) (by unfold toH; rw [if_neg d0, if_neg d1, if_pos d2]) ?_
    rcases key_cases h0 h1 with q | rfl
    · exact recall_k h q
    · rw [recall_4 h]; exact ⟨app_nilD h, .inl rfl⟩
  by_cases d3 : d = 3
  · have t : toH d = 0 := by unfold toH; rw [if_neg d0, if_neg d1, if_neg d2, if_pos d3]
    cases D with
    | nil => exact fin0 B [] [] (by simp) (by unfold stepH; rw [if_neg d0, if_neg d1, if_neg d2, if_pos d3]; simp [outsM]) (by unfold outH; rw [if_neg d0, if_neg d1, if_neg d2, if_pos d3]) (by unfold eH; rw [if_neg d0, if_neg d1, if_neg d2, if_pos d3]) t ⟨app_nil h, .inl rfl⟩
    | cons m D =>
      have key := hearD_k h
      exact fin0 (hearQ B 0 m).b (hearQ B 0 m).out D (by simp only [List.length_cons]; omega) (by unfold stepH; rw [if_neg d0, if_neg d1, if_neg d2, if_pos d3]) (by unfold outH; rw [if_neg d0, if_neg d1, if_neg d2, if_pos d3]) (by unfold eH; rw [if_neg d0, if_neg d1, if_neg d2, if_pos d3]; exact key.2.1) t ⟨key.1, key.2.2⟩
  have t : toH d = 1 := by unfold toH; rw [if_neg d0, if_neg d1, if_neg d2, if_neg d3]
  cases U with
  | nil => exact fin1 A [] [] (by simp) (by unfold stepH; rw [if_neg d0, if_neg d1, if_neg d2, if_neg d3]; simp [outsM]) (by unfold outH; rw [if_neg d0, if_neg d1, if_neg d2, if_neg d3]) (by unfold eH; rw [if_neg d0, if_neg d1, if_neg d2, if_neg d3]) t ⟨app_nilD h, .inl rfl⟩
  | cons m U =>
    have key := hearU_k h
    exact fin1 (hearQ A 1 m).b (hearQ A 1 m).out U (by simp only [List.length_cons]; omega) (by unfold stepH; rw [if_neg d0, if_neg d1, if_neg d2, if_neg d3]) (by unfold outH; rw [if_neg d0, if_neg d1, if_neg d2, if_neg d3]) (by unfold eH; rw [if_neg d0, if_neg d1, if_neg d2, if_neg d3]; exact key.2.1) t ⟨key.1, key.2.2⟩
theorem one_new (l : Leg) (v : Int) (k : Kid) : OneP (ownNew l v) held0 k [] [] :=
  ⟨fun _ => ⟨rfl, rfl, rfl⟩, (fun e => by cases e), (fun m hm => by cases hm), (fun m hm => by cases hm), (fun e => by cases e), by show (0 : Int) ≤ 0; decide, (fun e => by cases e), by show (0 : Int) ≤ 0; decide, by show (0 : Int) ≤ _; decide⟩
theorem start_ok : InvP startH := by
  have hl : (shareV sale16b.fare (wsOf sale16b)).length = 4 := shareV_len (show shareE sale16b.fare (wsOf sale16b) = 0 by kernel_rfl)
  have hO : ∃ vs, startH.a.owns = issO tA sale16b vs [] 4 := ⟨shareV sale16b.fare (wsOf sale16b), by
    show issO (bookNew 0 2).nextT sale16b (shareV sale16b.fare (wsOf sale16b)) [] (shareV sale16b.fare (wsOf sale16b)).length = _
    rw [hl]; rfl⟩
  obtain ⟨vs, hO⟩ := hO
  have hK : (issO tA sale16b vs [] 4).map (·.1) = keysA := rfl
  refine ⟨fun k hk => ?_, rfl, rfl, rfl, rfl, fun k hk => ?_, rfl, rfl, (fun k hk => by cases hk), List.nodup_nil, (fun m hm => by cases hm), (fun m hm => by cases hm)⟩
  · rw [hO]
    obtain ⟨i, rfl, h0, h1⟩ := keys_at hk
    have : i = 0 ∨ i = 1 ∨ i = 2 ∨ i = 3 := by omega
    rcases this with rfl | rfl | rfl | rfl
    · exact ⟨_, rfl, one_new _ _ _⟩
    · exact ⟨_, rfl, one_new _ _ _⟩
    · exact ⟨_, rfl, one_new _ _ _⟩
    · exact ⟨_, rfl, one_new _ _ _⟩
  · rw [hO] at hk
    by_cases m : k ∈ keysA
    · exact m
    · rw [lkt_none.2 (show k ∉ (issO tA sale16b vs [] 4).map (·.1) from hK ▸ m)] at hk; cases hk
theorem run_ok {acts : List Act16} (ok : ∀ x ∈ acts, ActOk x) : ∀ i ≤ acts.length, InvP (runH startH acts i) ∧ (runH startH acts i).down.length ≤ i ∧ (runH startH acts i).up.length ≤ i
  | 0, _ => ⟨start_ok, Nat.le_refl _, Nat.le_refl _⟩
  | i + 1, hi => by
    obtain ⟨h1, h2, h3⟩ := run_ok ok i (by omega)
    have hx : acts.getD i act0 ∈ acts := List.mem_of_getElem? (getD_some (by omega) act0)
    have ha := atOf_in (ok _ hx)
    have hs := step_ok h1 (d := (acts.getD i act0).d) ha.1 ha.2
    exact ⟨hs.1, Nat.le_trans hs.2.2.1 (by omega), Nat.le_trans hs.2.2.2 (by omega)⟩
theorem cntM_eq (kind : Int) (k : Kid) (n : Int) {l : List MsV} (hn : ∀ m ∈ l, m.kind = kind → m.key = k → m.k.n = n) : ∀ i ≤ l.length, cntM kind k n l i = nM kind k (l.take i)
  | 0, _ => by rw [List.take_zero]; rfl
  | i + 1, hi => by
    have hg := getD_some (l := l) (i := i) (by omega) ⟨0, kid0, cpn0, 0, 0⟩
    have hm : l.getD i ⟨0, kid0, cpn0, 0, 0⟩ ∈ l := List.mem_of_getElem? hg
    rw [List.take_add_one, hg]
    show cntM kind k n l i + (bif okM kind k n (l.getD i ⟨0, kid0, cpn0, 0, 0⟩) then 1 else 0) = nM kind k (l.take i ++ [l.getD i ⟨0, kid0, cpn0, 0, 0⟩])
    rw [cntM_eq kind k n hn i (by omega)]
    generalize l.getD i ⟨0, kid0, cpn0, 0, 0⟩ = m at hm
    unfold okM
    rw [kidE_iff]
    by_cases e1 : m.kind = kind
    · by_cases e2 : m.key = k
      · rw [nM_add1 kind k _ ⟨e1, e2⟩, decide_eq_true e1, decide_eq_true e2, decide_eq_true (hn m hm e1 e2)]; rfl
      · rw [nM_add kind k _ (fun e => e2 e.2), decide_eq_true e1, decide_eq_false e2]; rfl
    · rw [nM_add kind k _ (fun e => e1 e.1), decide_eq_false e1]; rfl
theorem InvP.one1 {σ : HSt} (h : InvP σ) {k : Kid} (hk : k ∈ keysA) : controlsN σ.a σ.b k σ.down σ.up = 1 := by
  obtain ⟨o, ho, hp⟩ := h.one k hk
  have hd := cntM_eq 2 k o.k.n hp.dn σ.down.length (Nat.le_refl _)
  have hu := cntM_eq 5 k o.k.n hp.upn σ.up.length (Nat.le_refl _)
  rw [List.take_length] at hd hu
  have h1 : ctl1 σ.b k = if ((lkt σ.b.helds k).getD held0).here = true then 1 else 0 := by
    unfold ctl1
    cases lkt σ.b.helds k with
    | none => rfl
    | some x => show (bif true && x.here then 1 else 0) = if x.here = true then 1 else 0; cases x.here <;> rfl
  unfold controlsN
  rw [h1]
  unfold ctl0
  rw [ho]
  show (bif true && !o.away then 1 else 0) + _ + cntM 2 k o.k.n σ.down σ.down.length + cntM 5 k o.k.n σ.up σ.up.length = 1
  rw [hd, hu]
  rcases Bool.eq_false_or_eq_true o.away with e | e
  · have hg := hp.gone e
    rw [e]
    show 0 + _ + _ + _ = 1
    omega
  · have hg := hp.stay e
    rw [e, hg.1, hg.2.1, hg.2.2]; rfl
theorem inv_all {acts : List Act16} (ok : ∀ x ∈ acts, ActOk x) : ∀ i ≤ acts.length, (∀ d j, 0 ≤ j → j ≤ 4 → GoodH (runH startH acts i) d j) ∧ (∀ k ∈ keysA, 0 < i → controlsN (runH startH acts i).a (runH startH acts i).b k (runH startH acts i).down (runH startH acts i).up = 1) ∧ (runH startH acts i).down.length ≤ i ∧ (runH startH acts i).up.length ≤ i ∧ (∀ m ∈ (runH startH acts i).down ++ (runH startH acts i).up, KidOk m.key ∧ 0 ≤ m.kind ∧ m.kind ≤ 255) := fun i hi => by
  obtain ⟨h1, h2, h3⟩ := run_ok ok i hi
  refine ⟨fun d j a b => (step_ok h1 a b).2.1, fun k hk _ => h1.one1 hk, h2, h3, fun m hm => ?_⟩
  have kk : m.key ∈ keysA → KidOk m.key := fun q => by
    obtain ⟨i, hi, a, b⟩ := keys_at q
    rw [hi]; exact keyA_ok a (by omega)
  rcases List.mem_append.1 hm with q | q
  · have := h1.dk m q
    exact ⟨kk this.1, by omega, by omega⟩
  · have := h1.uk m q
    exact ⟨kk this.1, by omega, by omega⟩
end Go.Proofs.Ytjeppnhkgiljpaa
end
section
namespace Go.Proofs.Ytjeppnhkgiljpaa
set_option maxRecDepth 100000
open Go.RowKit Go.Lib Go.Tk Go.Shelf Go.Vc Go.Sx
set_option linter.unusedVariables false
set_option linter.unusedSimpArgs false

def phi (σ : HSt) : Nat := wts σ.down + wts σ.up
def startA : HSt := ⟨(bookNew 0 2).issued sale16, bookNew 1 2, [], []⟩
def dAt (acts : List Act16) (i : Nat) : Int := if i < acts.length then (acts.getD i act0).d else ((3 + i % 2 : Nat) : Int)
def jAt (acts : List Act16) (i : Nat) : Int := if i < acts.length then Int.tmod (acts.getD i act0).k.i 3 else 0
def runA (acts : List Act16) : Nat → HSt
  | 0 => startA
  | i + 1 => stepH (runA acts i) (dAt acts i) (jAt acts i)
structure StepA (σ : HSt) (d j : Int) : Prop where
  inv : InvA (stepH σ d j)
  good : GoodH σ d j
  more : phi (stepH σ d j) ≤ phi σ + 2
  dn : d = 3 → (σ.down ≠ [] → phi (stepH σ d j) + 1 ≤ phi σ) ∧ (σ.down = [] → stepH σ d j = σ)
  up : d = 4 → (σ.up ≠ [] → phi (stepH σ d j) + 1 ≤ phi σ) ∧ (σ.up = [] → stepH σ d j = σ)
theorem astep_ok {σ : HSt} (h : InvA σ) {d j : Int} (h0 : 0 ≤ j) (h1 : j ≤ 2) : StepA σ d j := by
  obtain ⟨A, B, D, U⟩ := σ
  have hk := at_keysC h0 h1
  by_cases d0 : d = 0
  · have key := awant_k h hk rfl
    have hl := key.2.le
    have e : stepH ⟨A, B, D, U⟩ d j = ⟨A, (wantQ B (keyA j)).b, D, U ++ outsM (wantQ B (keyA j)).out⟩ := by unfold stepH; rw [if_pos d0]
    refine ⟨by rw [e]; exact key.1, ⟨by unfold eH; rw [if_pos d0], ?_⟩, ?_, fun q => by omega, fun q => by omega⟩
    · unfold outH toH; rw [if_pos d0, if_pos d0]; exact key.2.to
    · rw [e]; show wts D + wts (U ++ _) ≤ wts D + wts U + 2; rw [wts_append]; omega
  by_cases d1 : d = 1
  · have key := areturn_k h hk rfl
    have hl := key.2.le
    have e : stepH ⟨A, B, D, U⟩ d j = ⟨A, (returnQ B (keyA j)).b, D, U ++ outsM (returnQ B (keyA j)).out⟩ := by unfold stepH; rw [if_neg d0, if_pos d1]
    refine ⟨by rw [e]; exact key.1, ⟨by unfold eH; rw [if_neg d0, if_pos d1], ?_⟩, ?_, fun q => by omega, fun q => by omega⟩
    · unfold outH toH; rw [if_neg d0, if_pos d1, if_neg d0, if_pos d1]; exact key.2.to
    · rw [e]; show wts D + wts (U ++ _) ≤ wts D + wts U + 2; rw [wts_append]; omega
  by_cases d2 : d = 2
  · have key := arecall_k h hk
    have hl := key.2.le
    have e : stepH ⟨A, B, D, U⟩ d j = ⟨(recallQ A (keyA j)).b, B, D ++ outsM (recallQ A (keyA j)).out, U⟩ := by unfold stepH; rw [if_neg d0, if_neg d1, if_pos d2]
    refine ⟨by rw [e]; exact key.1, ⟨by unfold eH; rw [if_neg d0, if_neg d1, if_pos d2], ?_⟩, ?_, fun q => by omega, fun q => by omega⟩
    · unfold outH toH; rw [if_neg d0, if_neg d1, if_pos d2, if_neg d0, if_neg d1, if_pos d2]; exact key.2.to
    · rw [e]; show wts (D ++ _) + wts U ≤ wts D + wts U + 2; rw [wts_append]; omega
  by_cases d3 : d = 3
  · cases D with
    | nil =>
      have e : stepH ⟨A, B, [], U⟩ d j = ⟨A, B, [], U⟩ := by unfold stepH; rw [if_neg d0, if_neg d1, if_neg d2, if_pos d3]
      refine ⟨by rw [e]; exact h, ⟨by unfold eH; rw [if_neg d0, if_neg d1, if_neg d2, if_pos d3], .inl ?_⟩, by rw [e]; omega, fun _ => ⟨fun q => absurd rfl q, fun _ => e⟩, fun q => by omega⟩
      unfold outH; rw [if_neg d0, if_neg d1, if_neg d2, if_pos d3]
    | cons m D =>
      have key := ahearD_k h
      have hl := key.2.2.le
      have hw : 1 ≤ wtM m := by unfold wtM; split <;> omega
      have e : stepH ⟨A, B, m :: D, U⟩ d j = ⟨A, (hearQ B 0 m).b, D, U ++ outsM (hearQ B 0 m).out⟩ := by unfold stepH; rw [if_neg d0, if_neg d1, if_neg d2, if_pos d3]
      have hp : phi (stepH ⟨A, B, m :: D, U⟩ d j) + 1 ≤ phi ⟨A, B, m :: D, U⟩ := by
        rw [e]; show wts D + wts (U ++ _) + 1 ≤ wtM m + wts D + wts U; rw [wts_append]; omega
      refine ⟨by rw [e]; exact key.1, ⟨by unfold eH; rw [if_neg d0, if_neg d1, if_neg d2, if_pos d3]; exact key.2.1, ?_⟩, by omega, fun _ => ⟨fun _ => hp, fun q => by cases q⟩, fun q => by omega⟩
      unfold outH toH; rw [if_neg d0, if_neg d1, if_neg d2, if_pos d3, if_neg d0, if_neg d1, if_neg d2, if_pos d3]; exact key.2.2.to
  cases U with
  | nil =>
    have e : stepH ⟨A, B, D, []⟩ d j = ⟨A, B, D, []⟩ := by unfold stepH; rw [if_neg d0, if_neg d1, if_neg d2, if_neg d3]
    refine ⟨by rw [e]; exact h, ⟨by unfold eH; rw [if_neg d0, if_neg d1, if_neg d2, if_neg d3], .inl ?_⟩, by rw [e]; omega, fun q => absurd q d3, fun _ => ⟨fun q => absurd rfl q, fun _ => e⟩⟩
    unfold outH; rw [if_neg d0, if_neg d1, if_neg d2, if_neg d3]
  | cons m U =>
    have key := ahearU_k h
    have hl := key.2.2.le
    have hw : 1 ≤ wtM m := by unfold wtM; split <;> omega
    have e : stepH ⟨A, B, D, m :: U⟩ d j = ⟨(hearQ A 1 m).b, B, D ++ outsM (hearQ A 1 m).out, U⟩ := by unfold stepH; rw [if_neg d0, if_neg d1, if_neg d2, if_neg d3]
    have hp : phi (stepH ⟨A, B, D, m :: U⟩ d j) + 1 ≤ phi ⟨A, B, D, m :: U⟩ := by
      rw [e]; show wts (D ++ _) + wts U + 1 ≤ wts D + (wtM m + wts U); rw [wts_append]; omega
    refine ⟨by rw [e]; exact key.1, ⟨by unfold eH; rw [if_neg d0, if_neg d1, if_neg d2, if_neg d3]; exact key.2.1, ?_⟩, by omega, fun q => absurd q d3, fun _ => ⟨fun _ => hp, fun q => by cases q⟩⟩
    unfold outH toH; rw [if_neg d0, if_neg d1, if_neg d2, if_neg d3, if_neg d0, if_neg d1, if_neg d2, if_neg d3]; exact key.2.2.to
theorem ans_new (l : Leg) (v : Int) (k : Kid) : AnsP (ownNew l v) held0 k [] [] :=
  ⟨one_new l v k, rfl, (fun e => by cases e), rfl, (fun e => by cases e), rfl, (fun m hm => by cases hm), (fun e => by cases e)⟩
theorem ans_none (k : Kid) : AnsP own0 held0 k [] [] :=
  ⟨⟨fun _ => ⟨rfl, rfl, rfl⟩, (fun e => by cases e), (fun m hm => by cases hm), (fun m hm => by cases hm), (fun e => by cases e), by show (0 : Int) ≤ 0; decide, (fun e => by cases e), by show (0 : Int) ≤ 0; decide, by show (0 : Int) ≤ _; decide⟩,
    rfl, (fun e => by cases e), rfl, (fun e => by cases e), rfl, (fun m hm => by cases hm), (fun e => by cases e)⟩
theorem start_okA : InvA startA := by
  have hl : (shareV sale16.fare (wsOf sale16)).length = 2 := shareV_len (show shareE sale16.fare (wsOf sale16) = 0 by kernel_rfl)
  have hO : ∃ vs, startA.a.owns = issO tA sale16 vs [] 2 := ⟨shareV sale16.fare (wsOf sale16), by
    show issO (bookNew 0 2).nextT sale16 (shareV sale16.fare (wsOf sale16)) [] (shareV sale16.fare (wsOf sale16)).length = _
    rw [hl]; rfl⟩
  obtain ⟨vs, hO⟩ := hO
  have hK : (issO tA sale16 vs [] 2).map (·.1) = [keyA 0, keyA 1] := rfl
  refine ⟨fun k hk => ?_, rfl, rfl, rfl, rfl, fun k hk => ?_, ?_, rfl, rfl, (fun k hk => by cases hk), List.nodup_nil, (fun m hm => by cases hm), (fun m hm => by cases hm)⟩
  · rw [hO]
    obtain ⟨i, rfl, h0, h1⟩ := keysC_at hk
    have : i = 0 ∨ i = 1 ∨ i = 2 := by omega
    rcases this with rfl | rfl | rfl
    · exact ans_new _ _ _
    · exact ans_new _ _ _
    · exact ans_none _
  · rw [hO] at hk
    by_cases m : k ∈ [keyA 0, keyA 1]
    · simp only [List.mem_cons, List.not_mem_nil, or_false] at m
      rcases m with rfl | rfl <;> simp [keysC]
    · rw [lkt_none.2 (show k ∉ (issO tA sale16 vs [] 2).map (·.1) from hK ▸ m)] at hk; cases hk
  · rw [hO, hK]; decide
theorem jAt_in {acts : List Act16} (ok : ∀ x ∈ acts, ActOk x) (i : Nat) : 0 ≤ jAt acts i ∧ jAt acts i ≤ 2 := by
  unfold jAt
  by_cases h : i < acts.length
  · rw [if_pos h]
    have hx : acts.getD i act0 ∈ acts := List.mem_of_getElem? (getD_some h act0)
    have h1 := (ok _ hx).i.1
    rw [Int.tmod_eq_emod_of_nonneg h1]
    omega
  · rw [if_neg h]; omega
theorem runA_ok {acts : List Act16} (ok : ∀ x ∈ acts, ActOk x) : ∀ i, InvA (runA acts i) ∧ phi (runA acts i) ≤ 2 * i
  | 0 => ⟨start_okA, Nat.zero_le _⟩
  | i + 1 => by
    obtain ⟨h1, h2⟩ := runA_ok ok i
    have ha := jAt_in ok i
    have hs := astep_ok h1 (d := dAt acts i) ha.1 ha.2
    exact ⟨hs.inv, Nat.le_trans hs.more (by omega)⟩
theorem runA_step {acts : List Act16} (ok : ∀ x ∈ acts, ActOk x) (i : Nat) : StepA (runA acts i) (dAt acts i) (jAt acts i) := astep_ok (runA_ok ok i).1 (jAt_in ok i).1 (jAt_in ok i).2
theorem phi0 {σ : HSt} : phi σ = 0 ↔ σ.down = [] ∧ σ.up = [] := by
  constructor
  · intro h
    unfold phi at h
    have h1 := wts_len σ.down
    have h2 := wts_len σ.up
    exact ⟨List.length_eq_zero_iff.1 (by omega), List.length_eq_zero_iff.1 (by omega)⟩
  · rintro ⟨h1, h2⟩; unfold phi; rw [h1, h2]; rfl
theorem dAt_end {acts : List Act16} {i : Nat} (h : acts.length ≤ i) : dAt acts i = ((3 + i % 2 : Nat) : Int) := by unfold dAt; rw [if_neg (by omega)]
theorem drain {acts : List Act16} (ok : ∀ x ∈ acts, ActOk x) {i : Nat} (h : acts.length ≤ i) : phi (runA acts (i + 2)) + 1 ≤ phi (runA acts i) ∨ phi (runA acts (i + 2)) = 0 := by
  have s1 := runA_step ok i
  have s2 := runA_step ok (i + 1)
  have e1 : runA acts (i + 1) = stepH (runA acts i) (dAt acts i) (jAt acts i) := rfl
  have e2 : runA acts (i + 2) = stepH (runA acts (i + 1)) (dAt acts (i + 1)) (jAt acts (i + 1)) := rfl
  have d1 := dAt_end (acts := acts) h
  have d2 := dAt_end (acts := acts) (i := i + 1) (by omega)
  rcases Nat.mod_two_eq_zero_or_one i with p | p
  · have p2 : (i + 1) % 2 = 1 := by omega
    rw [p] at d1
    rw [p2] at d2
    have a1 := s1.dn d1
    have a2 := s2.up d2
    rw [← e1] at a1
    rw [← e2] at a2
    by_cases g : (runA acts i).down = []
    · have b1 := a1.2 g
      by_cases g2 : (runA acts i).up = []
      · rw [b1] at a2
        right; rw [a2.2 g2]; exact phi0.2 ⟨g, g2⟩
      · rw [b1] at a2
        left; exact a2.1 g2
    · have b1 := a1.1 g
      left
      by_cases g2 : (runA acts (i + 1)).up = []
      · rw [a2.2 g2]; exact b1
      · have := a2.1 g2; omega
  · have p2 : (i + 1) % 2 = 0 := by omega
    rw [p] at d1
    rw [p2] at d2
    have a1 := s1.up d1
    have a2 := s2.dn d2
    rw [← e1] at a1
    rw [← e2] at a2
    by_cases g : (runA acts i).up = []
    · have b1 := a1.2 g
      by_cases g2 : (runA acts i).down = []
      · rw [b1] at a2
        right; rw [a2.2 g2]; exact phi0.2 ⟨g2, g⟩
      · rw [b1] at a2
        left; exact a2.1 g2
    · have b1 := a1.1 g
      left
      by_cases g2 : (runA acts (i + 1)).down = []
      · rw [a2.2 g2]; exact b1
      · have := a2.1 g2; omega
theorem drained {acts : List Act16} (ok : ∀ x ∈ acts, ActOk x) : ∀ j, phi (runA acts (acts.length + 2 * j)) + j ≤ 2 * acts.length ∨ phi (runA acts (acts.length + 2 * j)) = 0
  | 0 => .inl (by have := (runA_ok ok acts.length).2; simpa using this)
  | j + 1 => by
    have e : acts.length + 2 * (j + 1) = acts.length + 2 * j + 2 := by omega
    rw [e]
    rcases drain ok (i := acts.length + 2 * j) (by omega) with d | d
    · rcases drained ok j with q | q
      · left; omega
      · omega
    · exact .inr d
theorem endA {acts : List Act16} (ok : ∀ x ∈ acts, ActOk x) : (runA acts (acts.length + 4 * acts.length + 8)).down = [] ∧ (runA acts (acts.length + 4 * acts.length + 8)).up = [] := by
  have h := drained ok (2 * acts.length + 4)
  rw [show acts.length + 2 * (2 * acts.length + 4) = acts.length + 4 * acts.length + 8 by omega] at h
  exact phi0.1 (by omega)
theorem sumN_zero {α : Type} {f : α → Nat} : ∀ {l : List α}, (∀ x ∈ l, f x = 0) → sumN f l = 0
  | [], _ => rfl
  | x :: l, h => by
    show f x + sumN f l = 0
    rw [h x List.mem_cons_self, sumN_zero fun y hy => h y (List.mem_cons_of_mem _ hy)]
theorem InvA.open0 {σ : HSt} (h : InvA σ) (hD : σ.down = []) (hU : σ.up = []) : openN σ.a 1 = 0 ∧ openN σ.b 0 = 0 := by
  constructor
  · unfold openN
    rw [h.ha]
    have : sumN (fun p : Kid × OwnV => cntO 1 p.2) σ.a.owns = 0 := sumN_zero fun p hp => by
      obtain ⟨k, o⟩ := p
      have hl := lkt_of h.no hp
      have hk := h.ow k (by rw [hl]; rfl)
      have hq := h.one k hk
      rw [hl, hD, hU] at hq
      have hq : AnsP o ((lkt σ.b.helds k).getD held0) k [] [] := hq
      have hz : o.asked = false := by
        rcases Bool.eq_false_or_eq_true o.asked with e | e
        · obtain ⟨a1, a2, a3⟩ := hq.ask e
          have hg := (hq.p.gone a1).2
          have hx : ((lkt σ.b.helds k).getD held0).here = true := by
            rcases Bool.eq_false_or_eq_true ((lkt σ.b.helds k).getD held0).here with q | q
            · exact q
            · rw [if_neg (by rw [q]; intro e; cases e)] at hg; cases hg
          have := a3 hx
          cases this
        · exact e
      show cntO 1 o = 0
      unfold cntO; rw [hz]; rfl
    rw [this]; rfl
  · unfold openN
    rw [h.ob]
    have : sumN (cntH 0) σ.b.helds = 0 := sumN_zero fun p hp => by
      obtain ⟨k, x⟩ := p
      have hl := lkt_of h.nd hp
      have hk := h.he k (by rw [hl]; rfl)
      have hq := h.one k hk
      rw [hl, hD, hU] at hq
      have hq : AnsP ((lkt σ.a.owns k).getD own0) x k [] [] := hq
      have hb : x.billed = false := hq.bl
      have hw : x.wanted = false := by
        rcases Bool.eq_false_or_eq_true x.wanted with e | e
        · have hc := hq.cnt
          rw [if_pos e] at hc; cases hc
        · exact e
      show cntH 0 (k, x) = 0
      unfold cntH; rw [hb, hw, Bool.and_false]; rfl
    rw [this]; rfl
theorem openN_le (B : BookV) (c : Int) : openN B c ≤ B.owns.length + 2 * B.helds.length := by
  have cle : ∀ l : OwnsV, sumN (fun p : Kid × OwnV => cntO c p.2) l ≤ l.length := fun l => by
    induction l with
    | nil => exact Nat.le_refl _
    | cons p l ih =>
      have : cntO c p.2 ≤ 1 := by unfold cntO; cases (p.2.asked && (p.2.away && decide (p.2.dst = c))) <;> decide
      simp only [sumN, List.length_cons]; omega
  have hle : ∀ l : HeldsV, sumN (cntH c) l ≤ 2 * l.length := fun l => by
    induction l with
    | nil => exact Nat.le_refl _
    | cons p l ih =>
      have : cntH c p ≤ 2 := by unfold cntH; cases (decide (p.1.t.c = c) && p.2.wanted) <;> cases (decide (p.1.t.c = c) && p.2.billed) <;> decide
      simp only [sumN, List.length_cons]; omega
  have h1 := cle B.owns
  have h2 := hle B.helds
  unfold openN; omega
end Go.Proofs.Ytjeppnhkgiljpaa
end
