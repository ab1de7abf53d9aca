/- SX: functions that hold a range over a function. -/
import Derived.Test.YtifapcpcemigdaaGreatM3faa7a2
namespace Go.Sx
set_option linter.unusedVariables false
set_option linter.unusedSimpArgs false
set_option linter.unusedSectionVars false
open Go.RowKit Go.Tk Go.Lib Go.Shelf Go.Vc
theorem calls_marks {P : Program} {n : Nat} {f : FuncId} {fn : Func} {c : Code} {args : Array Value} {w : World} {R : Ending → World → Prop} (hf : P.funcs[f]? = some fn) (hb : fn.body = some c)
    (h : c.wpIn (wideR none) n P (bodyPostM (wideR none) n P fn R) { tmps := args ++ Array.replicate (fn.ntmps - args.size) undef, defers := [] } w) : Calls P f args w R :=
  (callsIn_wide (n := n)).1 (callsIn_of_wp_marks hf hb trivial h rfl)
section
variable {P : Program} {f n : Nat} {eb : Env} {R : List Chunk} {ret : SV} {rp : Heap}
def GoM (P : Program) (f n : Nat) (ret : SV) (rp : Heap) (eb : Env) (R : List Chunk) (K : List It) (sl : Slots) (H : Heap) : Prop :=
  JdR P none n [] (ntOf P f) 1 eb R (bodyPostM (wideR none) n P (fnOf P f) (goalR ret rp eb R)) .nrm K ⟨sl, H, 2⟩
theorem callOK_introM (n : Nat) {args : List SV} {rd pre post : Heap} (hs : startB P f args (rd ++ pre) = true) (h : ∀ eb R, GoM P f n ret (rd ++ post) eb R [.code (bodyOf P f)] (argSlots 0 args) (rd ++ pre)) : CallOK P f args rd pre ret post := by
  unfold startB at hs
  simp only [Bool.and_eq_true] at hs
  obtain ⟨h1, h2, h3, h4, h5, h6⟩ := hs
  intro ε R w hM
  obtain ⟨fn, hf⟩ := Option.isSome_iff_exists.1 h1
  have hfn : fnOf P f = fn := by unfold fnOf; rw [hf]; rfl
  rw [hfn] at h2
  obtain ⟨c, hc⟩ := Option.isSome_iff_exists.1 h2
  have hbd : bodyOf P f = c := by unfold bodyOf; rw [hfn, hc]; rfl
  have hnt : ntOf P f = fn.ntmps := by unfold ntOf; rw [hfn]
  have ha : (SV.dens ε args).toArray.size ≤ fn.ntmps := by have := Nat.le_of_ble_eq_true h3; rw [hnt] at this; simpa [dens_length] using this
  refine calls_marks (n := n) hf hc ?_
  have := h ε R ε { tmps := (SV.dens ε args).toArray ++ Array.replicate (fn.ntmps - (SV.dens ε args).toArray.size) undef, defers := [] } w rfl (enter_rel (by rw [hnt]; simp [strip]; simp at ha; omega) rfl (fun i v hv => by
    have := (Array.getElem?_eq_some_iff.1 hv).1
    simp only [strip, Array.getElem?_append, this, if_true]; exact hv) hM h4 h5 (ndB_nodup h6) (by omega))
  rw [hbd, hfn] at this
  exact this
theorem leaf_cutM {K : List It} {sl0 : Slots} {H0 : Heap} (K2 : List It) (sl : Slots) (H : Heap) (cal : Callee P) (m : Nat) (hs : List (Hint P)) (hcal : CalleeOK P cal)
    (h : kl (ptRun P cal (ntOf P f) false m sl H ⟨.nrm, K, ⟨sl0, H0, 2⟩, hs⟩) = kr K2 (ptRun P cal (ntOf P f) false m sl H ⟨.nrm, K, ⟨sl0, H0, 2⟩, hs⟩)) (hg : GoM P f n ret rp eb R K2 sl H) : GoM P f n ret rp eb R K sl0 H0 := by
  obtain ⟨ck0, h1, hk⟩ := kl_kr h
  clear h
  unfold ptRun at h1
  have key := exec_okR (P := P) (cal := cal) (nt := ntOf P f) (lo := 1) (eb := eb) (R := R) (ro := none) (n := n) (Q := bodyPostM (wideR none) n P (fnOf P f) (goalR ret rp eb R)) (ds := []) hcal (m := m) (c := ⟨.nrm, K, ⟨sl0, H0, 2⟩, hs⟩)
  generalize exec P cal (ntOf P f) false m ⟨.nrm, K, ⟨sl0, H0, 2⟩, hs⟩ = r at key h1
  obtain ⟨c', ck⟩ := r
  simp only at key h1
  split at h1 <;> try (cases h1; done)
  rename_i he
  generalize umH c'.σ.heap H (umSl sl c'.σ.slots []) = G at h1
  cases hb : ndB (namesR (gR G) H) && (ndB (names H) && (sl.all (fun x => x.2.ok (ltB 2)) && (hok (ltB 2) H && nilsOK (gR G) H))) with
  | false => rw [hb] at h1; cases h1
  | true =>
    rw [hb] at h1
    simp only [cond_true, Option.some.injEq, Prod.mk.injEq] at h1
    obtain ⟨h1, hK⟩ := h1
    subst h1
    subst hK
    simp only [Bool.and_eq_true] at hb
    obtain ⟨b1, b2, b3, b4, b5⟩ := hb
    refine key hk.left fun ε a w hd hr => ?_
    rw [he]
    exact hg _ a w hd (pt_rel hk.right.left hk.right.right b1 b2 b3 b4 b5 hr)
theorem go_openM {X : Type} {K : List It} {sl : Slots} {H : Heap} (H' : X → Heap) (hX : ∀ ε w, Mem (hden ε H ++ R) w → ∃ x, Mem (hden ε (H' x) ++ R) w) (hok : ∀ x, (ndB (names (H' x)) && hok (ltB 2) (H' x)) = true) (h : ∀ x, GoM P f n ret rp eb R K sl (H' x)) : GoM P f n ret rp eb R K sl H := fun ε a w hd hr => by
  obtain ⟨x, hm⟩ := hX ε w hr.mem
  have hx := hok x
  rw [Bool.and_eq_true] at hx
  exact h x ε a w hd ⟨hr.size, hr.defers, hr.slots, hm, ndB_nodup hx.1, hx.2, hr.e0, hr.pos⟩
def markD (D : Nat) : Deferred := { target := .collected D, args := #[] }
theorem go_range {α : Type} {g : Operand} {ps : Array Tmp} {assign body : Code} {K : List It} {sl : Slots} {gf : Nat} {bs : List SV} (hgv : slotsEv sl g = some (.fn (.func gf) [] bs)) (eg : ∀ args w, (callFunc gf args).run P w = .ok (.enter gf args) w)
    (enc : α → List SV) (all : List α) (G : Env → World → Prop) (hseq : ∀ ε, IterOK P gf (SV.dens ε bs).toArray (fun x => (SV.dens ε (enc x)).toArray) all (G ε) (n - 1)) (hps : ∀ x, (enc x).length = ps.size) (henc : ∀ x, SV.oks (ltB 2) (enc x) = true) (hpn : ps.toList.Nodup) (hpl : ∀ p ∈ ps.toList, p < ntOf P f)
    (Hp : List α → Heap) (Hs : Code → Heap) (hGm : ∀ ε pre X W, Mem (X ++ (hden ε (Hp pre) ++ R)) W → G ε W)
    (h2 : ∀ pre, ndB (names (Hp pre)) = true) (h4 : ∀ pre, hok (ltB 2) (Hp pre) = true) (hs2 : ∀ c, ndB (names (Hs c)) = true) (hs4 : ∀ c, hok (ltB 2) (Hs c) = true) (hsl : sl.all (fun x => x.2.ok (ltB 2) && !ps.toList.any (fun p => Nat.beq p x.1)) = true)
    (sl1 : α → Slots)
    (hassign : ∀ ε l pre x X, pre ++ [x] <+: all → JdR P (some l) (n - 1 - 1) [] (ntOf P f) 2 ε (X ++ R) (fun e a w => e = .normal ∧ SlA (ntOf P f) ε (sl1 x) a ∧ Mem (hden ε (Hp pre) ++ (X ++ R)) w) .nrm [.code assign] ⟨ps.toList.zip (enc x) ++ sl, Hp pre, 2⟩)
    (hbody : ∀ ε l pre x X, pre ++ [x] <+: all → JdR P (some l) (n - 1 - 1) [] (ntOf P f) 2 ε (X ++ R) (rfPost X (hden ε (Hp (pre ++ [x])) ++ R) (fun c => hden ε (Hs c) ++ R)) .nrm [.code body] ⟨sl1 x, Hp pre, 2⟩)
    (hdone : ∀ ε D, ε 0 = eb 0 → JdR P none n [markD D] (ntOf P f) 2 ε (objC D (.deferred (some [])) :: R) (bodyPostM (wideR none) n P (fnOf P f) (goalR ret rp eb R)) .nrm K ⟨sl, Hp all, 2⟩)
    (hstop : ∀ ε D c, ε 0 = eb 0 → JdR P none n [markD D] (ntOf P f) 2 ε (objC D (.deferred (some [])) :: R) (bodyPostM (wideR none) n P (fnOf P f) (goalR ret rp eb R)) .nrm (.code c :: K) ⟨sl, Hs c, 2⟩) :
    GoM P f n ret rp eb R (.code (.rangeFunc g ps assign body) :: K) sl (Hp []) := by
  intro ε a w hd hr
  have hgd := (rel_ev hr ⟨none, .move g, 0, "", #[], none⟩ g (by simp [Op.operands]) _ hgv).1
  rw [strip_eval] at hgd
  have e0 : ε 0 = eb 0 := hr.e0 0 (by omega)
  have sw : ∀ {A X : List Chunk} {W : World}, Mem (X ++ (A ++ R)) W → Mem (A ++ (X ++ R)) W := fun {A X W} h => mem_perm (by
    rw [← List.append_assoc, ← List.append_assoc]
    exact List.Perm.append_right R List.perm_append_comm) h
  have slk : ∀ d v, lkS sl d = some v → a.tmps[d]? = some (v.den ε) ∧ v.ok (ltB 2) = true := fun d v hv => ⟨(hr.slots d v hv).1, by
    have := List.all_eq_true.1 hsl _ (lkS_mem hv)
    rw [Bool.and_eq_true] at this
    exact this.1⟩
  show (Code.rangeFunc g ps assign body).wpIn (wideR none) n P (wpKR P none n _ K) a w
  refine rf_mem (gf := gf) (lb := (SV.dens ε bs).toArray) (encs := fun x => (SV.dens ε (enc x)).toArray) (all := all) (G := G ε) (by rw [hgd]; simp [SV.den, SV.dens]) eg (hseq ε) (fun x => by rw [List.size_toArray, dens_length]; exact hps x)
    (fun pre => hden ε (Hp pre) ++ R) (fun c => hden ε (Hs c) ++ R) (fun x a1 => SlA (ntOf P f) ε (sl1 x) a1) (fun pre X W h => hGm ε pre X W h) hr.mem ?_ ?_ ?_ ?_
  · intro l pre x X W Kk hpre hM hK
    have hz : (strip { tmps := (ps.zip ((SV.dens ε (enc x)).toArray)).foldl (fun t (p, v) => t.setIfInBounds p v) a.tmps, defers := [] } : Act).tmps.size = ntOf P f := by
      have key : ∀ (z : List (Tmp × Value)) (t : Array Value), (z.foldl (fun t (p, v) => t.setIfInBounds p v) t).size = t.size := by
        intro z
        induction z with
        | nil => intro t; rfl
        | cons y z ih => intro t; rw [List.foldl_cons, ih]; simp
      show ((ps.zip ((SV.dens ε (enc x)).toArray)).foldl (fun t (p, v) => t.setIfInBounds p v) a.tmps).size = _
      rw [← Array.foldl_toList, key]
      exact hr.size
    have hfold : ∀ (z : List (Tmp × Value)) (t : Array Value) (d : Nat), (∀ q ∈ z, q.1 ≠ d) → (z.foldl (fun t (p, v) => t.setIfInBounds p v) t)[d]? = t[d]? := by
      intro z
      induction z with
      | nil => intro t d _; rfl
      | cons y z ih =>
        intro t d h
        rw [List.foldl_cons, ih _ _ fun q hq => h q (List.mem_cons_of_mem _ hq)]
        exact Array.getElem?_setIfInBounds_ne (h y List.mem_cons_self)
    have hpar : ∀ (pl : List Tmp) (el : List SV) (t : Array Value), pl.Nodup → (∀ p ∈ pl, p < t.size) → pl.length = el.length → ∀ d v, lkS (pl.zip el) d = some v → ((pl.zip (SV.dens ε el)).foldl (fun t (p, v) => t.setIfInBounds p v) t)[d]? = some (v.den ε) := by
      intro pl
      induction pl with
      | nil => intro el t _ _ _ d v h; cases h
      | cons p pl ih =>
        intro el t hn hl hlen d v h
        cases el with
        | nil => cases h
        | cons y el =>
          rw [List.nodup_cons] at hn
          have h : lkS ((p, y) :: pl.zip el) d = some v := h
          show (((p, SV.den ε y) :: pl.zip (SV.dens ε el)).foldl (fun t (p, v) => t.setIfInBounds p v) t)[d]? = _
          rw [List.foldl_cons]
          unfold lkS at h
          cases hb : Nat.beq p d with
          | true =>
            rw [hb] at h; cases h
            have hpd := Nat.eq_of_beq_eq_true hb
            subst hpd
            rw [hfold _ _ _ (fun q hq e => hn.1 (by rw [← e]; exact (List.of_mem_zip hq).1))]
            show (t.setIfInBounds p (SV.den ε v))[p]? = _
            rw [Array.getElem?_setIfInBounds_self_of_lt (hl p List.mem_cons_self)]
          | false =>
            rw [hb] at h
            exact ih el _ hn.2 (fun q hq => by rw [Array.size_setIfInBounds]; exact hl q (List.mem_cons_of_mem _ hq)) (by simpa using hlen) d v h
    have hsize : a.tmps.size = ntOf P f := hr.size
    have hsl2 : ∀ d v, lkS (ps.toList.zip (enc x) ++ sl) d = some v → ((ps.zip ((SV.dens ε (enc x)).toArray)).foldl (fun t (p, v) => t.setIfInBounds p v) a.tmps)[d]? = some (v.den ε) ∧ v.ok (ltB 2) = true := fun d v hv => by
      rw [← Array.foldl_toList]
      have ez : (ps.zip ((SV.dens ε (enc x)).toArray)).toList = ps.toList.zip (SV.dens ε (enc x)) := by simp
      rw [ez]
      have hap : ∀ (A B : Slots), lkS (A ++ B) d = some v → lkS A d = some v ∨ ((∀ q ∈ A, q.1 ≠ d) ∧ lkS B d = some v) := by
        intro A
        induction A with
        | nil => intro B h; exact .inr ⟨(fun q hq => by cases hq), h⟩
        | cons q A ih =>
          intro B h
          obtain ⟨q1, q2⟩ := q
          have h : (bif Nat.beq q1 d then some q2 else lkS (A ++ B) d) = some v := h
          show (bif Nat.beq q1 d then some q2 else lkS A d) = some v ∨ ((∀ q ∈ (q1, q2) :: A, q.1 ≠ d) ∧ lkS B d = some v)
          cases hb : Nat.beq q1 d with
          | true => rw [hb] at h; exact .inl h
          | false =>
            rw [hb] at h
            rcases ih B h with h1 | ⟨h1, h3⟩
            · exact .inl h1
            · exact .inr ⟨fun q' hq' => by
                rcases List.mem_cons.1 hq' with rfl | hq'
                · intro e; have e : q1 = d := e; rw [e, Nat.beq_refl] at hb; cases hb
                · exact h1 q' hq', h3⟩
      rcases hap _ _ hv with h1 | ⟨h1, h3⟩
      · refine ⟨hpar _ _ _ hpn (fun p hp => by rw [hsize]; exact hpl p hp) (by rw [hps x]; simp) d v h1, ?_⟩
        have := (List.of_mem_zip (lkS_mem h1)).2
        have ho := henc x
        rw [oks_all] at ho
        exact List.all_eq_true.1 ho v this
      · refine ⟨?_, (slk d v h3).2⟩
        rw [hfold _ _ _ ?_]
        · exact (slk d v h3).1
        · intro q hq e
          have hq1 := (List.of_mem_zip hq).1
          have := List.all_eq_true.1 hsl _ (lkS_mem h3)
          rw [Bool.and_eq_true] at this
          have h5 : (ps.toList.any fun p => Nat.beq p d) = true := List.any_eq_true.2 ⟨q.1, hq1, by rw [e]; exact Nat.beq_refl d⟩
          rw [h5] at this
          cases this.2
    have hrun := hassign ε l pre x X hpre ε { tmps := (ps.zip ((SV.dens ε (enc x)).toArray)).foldl (fun t (p, v) => t.setIfInBounds p v) a.tmps, defers := [] } W rfl ⟨hz, rfl, hsl2, sw hM, ndB_nodup (h2 pre), h4 pre, fun _ _ => rfl, Nat.le_refl _⟩
    refine wpIn_mono (hrun : assign.wpIn (wideR (some l)) (n - 1 - 1) P _ _ W) ?_
    rintro e a1 W1 ⟨he, ha, hm⟩
    have he : e = .normal := he
    subst he
    exact hK a1 W1 ha (mem_perm (by
      rw [← List.append_assoc, ← List.append_assoc]
      exact List.Perm.append_right R List.perm_append_comm) hm)
  · intro l pre x X a1 W hpre ha hM
    exact jd_at ha (sw hM) (h2 pre) (h4 pre) (hbody ε l pre x X hpre)
  · intro D W hM
    refine hdone ε D e0 ε _ W (by rw [hd]; rfl) ⟨hr.size, rfl, slk, ?_, ndB_nodup (h2 all), h4 all, fun _ _ => rfl, Nat.le_refl _⟩
    exact mem_perm (List.perm_middle (l₁ := hden ε (Hp all)) (l₂ := R)).symm hM
  · intro D c W hM
    have := hstop ε D c e0 ε { a with defers := { target := .collected D, args := #[] } :: a.defers } W (by rw [hd]; rfl) ⟨hr.size, rfl, slk, mem_perm (List.perm_middle (l₁ := hden ε (Hs c)) (l₂ := R)).symm hM, ndB_nodup (hs2 c), hs4 c, fun _ _ => rfl, Nat.le_refl _⟩
    exact this
def endRunM (P : Program) (cal : Callee P) (nt n : Nat) (rs : List ResultVar) (ret : SV) (rp : Heap) (c : Cfg P) : Option (List (CV × CV)) :=
  match exec P cal nt false n c with
  | (c', ck) => match c'.K with
    | [] => match c'.e with
      | .ext _ => none
      | _ => match retV P c'.σ rs with
        | some v => bif ndB (namesR (gR []) rp) && (ret.ok (ltB 2) && (hok (ltB 2) rp && nilsOK (gR []) rp)) then some (ck ++ ((.sv v, .sv (ret.ren (gR []))) :: chkOf (gR []) c'.σ.heap rp)) else none
        | none => none
    | _ :: _ => none
theorem leaf_endM {K : List It} {sl : Slots} {H : Heap} {ε0 : Env} {D : Nat} (h0 : ε0 0 = eb 0) (cal : Callee P) (m : Nat) (hs : List (Hint P)) (hcal : CalleeOK P cal)
    (h : cl (endRunM P cal (ntOf P f) m (rsOf P f) ret rp ⟨.nrm, K, ⟨sl, H, 2⟩, hs⟩) = cr (endRunM P cal (ntOf P f) m (rsOf P f) ret rp ⟨.nrm, K, ⟨sl, H, 2⟩, hs⟩)) :
    JdR P none n [markD D] (ntOf P f) 2 ε0 (objC D (.deferred (some [])) :: R) (bodyPostM (wideR none) n P (fnOf P f) (goalR ret rp eb R)) .nrm K ⟨sl, H, 2⟩ := by
  obtain ⟨ck0, h1, hk⟩ := cl_cr h
  clear h
  unfold endRunM at h1
  have key := exec_okR (P := P) (cal := cal) (nt := ntOf P f) (lo := 2) (eb := ε0) (R := objC D (.deferred (some [])) :: R) (ro := none) (n := n) (Q := bodyPostM (wideR none) n P (fnOf P f) (goalR ret rp eb R)) (ds := [markD D]) hcal (m := m) (c := ⟨.nrm, K, ⟨sl, H, 2⟩, hs⟩)
  generalize exec P cal (ntOf P f) false m ⟨.nrm, K, ⟨sl, H, 2⟩, hs⟩ = r at key h1
  obtain ⟨c', ck⟩ := r
  simp only at key h1
  split at h1 <;> try (cases h1; done)
  rename_i hK
  have fin : ∀ v, retV P c'.σ (rsOf P f) = some v → (bif ndB (namesR (gR []) rp) && (ret.ok (ltB 2) && (hok (ltB 2) rp && nilsOK (gR []) rp)) then some (ck ++ ((CV.sv v, CV.sv (ret.ren (gR []))) :: chkOf (gR []) c'.σ.heap rp)) else none) = some ck0 → c'.e.up = .normal ∨ c'.e.up = .ret → JdR P none n [markD D] (ntOf P f) 2 ε0 (objC D (.deferred (some [])) :: R) (bodyPostM (wideR none) n P (fnOf P f) (goalR ret rp eb R)) .nrm K ⟨sl, H, 2⟩ := by
    intro v hv h1 he
    cases hb : ndB (namesR (gR []) rp) && (ret.ok (ltB 2) && (hok (ltB 2) rp && nilsOK (gR []) rp)) with
    | false => rw [hb] at h1; cases h1
    | true =>
      rw [hb] at h1; cases h1
      simp only [Bool.and_eq_true] at hb
      obtain ⟨b1, b2, b3, b4⟩ := hb
      refine key hk.left fun ε a w hd hr => ?_
      rw [hK]
      have hv1 := hk.right _ List.mem_cons_self
      have hv2 : v = ret.ren (gR []) := by simpa using hv1
      have hm0 : Mem (objC D (.deferred (some [])) :: (hden ε c'.σ.heap ++ R)) w := mem_perm List.perm_middle hr.mem
      have hD := mem_obj_at 0 rfl hm0
      have hm1 := mem_obj_put (.deferred none) hm0
      have hr2 : Rel (ntOf P f) 2 ε0 R c'.σ ε (strip a) (w.putObj D (.deferred none)) := ⟨hr.size, hr.defers, hr.slots, hm1.tail, hr.nd, hr.sc, hr.e0, hr.pos⟩
      have hres : (results (fnOf P f) a.tmps).run P (w.putObj D (.deferred none)) = .ok (v.den ε) (w.putObj D (.deferred none)) := retV_ok (fn := fnOf P f) hr2 hv
      have hM := rel_out (H := rp) (fun c hc => hk.right c (List.mem_cons_of_mem _ hc)) b1 b3 b4 hr2
      have ek : ∀ t k, ltB 2 t k = true → eset eb 1 (ε0 1) t k = ε0 t k := fun t k ht => by
        have ht := ltB_iff.1 ht
        rcases (by omega : t = 0 ∨ t = 1) with rfl | rfl
        · rw [eset_ne (by omega), h0]
        · rw [eset_at]
      have hgoal : goalR ret rp eb R (.returned (v.den ε)) (w.putObj D (.deferred none)) := by
        refine ⟨ε0 1, ?_, ?_⟩
        · congr 1
          rw [hv2, SV.den_ren]
          refine SV.den_congr (fun t k ht => ?_) ret b2
          rw [ek t k ht, gE_id (ltB_iff.1 ht), hr.e0 t (ltB_iff.1 ht)]
        · rw [hden_congr ek b3]
          exact hM
      have hL : LeavesInM (wideR none) n P (fnOf P f) a.tmps (goalR ret rp eb R) a.defers .returning w := by
        rw [hd]
        exact ⟨by simp, .inl ⟨D, _, rfl, run_takeDeferred hD, _, hres, hgoal⟩⟩
      show wpKR P none n _ [] c'.e.up a w
      rcases he with he | he <;> rw [he] <;> exact hL
  split at h1
  · cases h1
  · rename_i hne
    split at h1 <;> try (cases h1; done)
    rename_i v hv
    refine fin v hv h1 ?_
    cases hce : c'.e with
    | nrm => exact .inl rfl
    | ret => exact .inr rfl
    | ext id => exact absurd hce (hne id)
theorem jd_open {ro : Option Nat} {ds : List Deferred} {nt lo : Nat} {Q : Exit → Act → World → Prop} {e : Ex} {K : List It} {sl : Slots} {H : Heap} (H' : Heap) (hX : ∀ ε w, Mem (hden ε H ++ R) w → Mem (hden ε H' ++ R) w) (h1 : ndB (names H') = true) (h2 : hok (ltB 2) H' = true)
    (h : JdR P ro n ds nt lo eb R Q e K ⟨sl, H', 2⟩) : JdR P ro n ds nt lo eb R Q e K ⟨sl, H, 2⟩ := fun ε a w hd hr =>
  h ε a w hd ⟨hr.size, hr.defers, hr.slots, hX ε w hr.mem, ndB_nodup h1, h2, hr.e0, hr.pos⟩
def findF : Code → List It → Option ((Operand × Array Tmp) × (Code × Code) × List It)
  | .seq a b, K => match findF a (.code b :: K) with
    | some x => some x
    | none => findF b K
  | .cond _ a b, K => match findF a K with
    | some x => some x
    | none => findF b K
  | .block id b, K => findF b (.blk id :: K)
  | .rangeFunc g ps a b, K => some ((g, ps), (a, b), K)
  | _, _ => none
def rfX (P : Program) (f : Nat) : (Operand × Array Tmp) × (Code × Code) × List It := (findF (bodyOf P f) []).getD ((.tmp 0, #[]), (.skip, .skip), [])
def rfg (P : Program) (f : Nat) : Operand := (rfX P f).1.1
def rfps (P : Program) (f : Nat) : Array Tmp := (rfX P f).1.2
def rfa (P : Program) (f : Nat) : Code := (rfX P f).2.1.1
def rfb (P : Program) (f : Nat) : Code := (rfX P f).2.1.2
def rfk (P : Program) (f : Nat) : List It := (rfX P f).2.2
def rfK (P : Program) (f : Nat) : List It := .code (.rangeFunc (rfg P f) (rfps P f) (rfa P f) (rfb P f)) :: rfk P f
def boxZ (b : Nat) (vs : Array Value) : Chunk where
  at_ S w := S b ∧ Box w b vs
  stable {S w w'} hk hi h := ⟨h.1, by obtain ⟨E, he⟩ := h.2; exact ⟨E, (hk.block b h.1 (hi b h.1)).trans he⟩⟩
def isBoxT (t : TypeId) (o : Oper) : Bool := match o.op with
  | .box t' _ => Nat.beq t t'
  | _ => false
def boxX (o : Oper) : List Operand := match o.op with
  | .box _ x => [x]
  | _ => []
theorem box_g {t : TypeId} (cs : List SV) (h1 : SV.oks (ltB 1) cs = true) (hc : ∀ ε, ((SV.agg cs).den ε).cells = (SV.dens ε cs).toArray) :
    OpG P (isBoxT t) boxX [.agg cs] [] [] (.ptr 1 0 0) [((1, 0), .famE cs fun b _ vs => boxZ b vs.toArray)] := by
  intro o ho
  unfold isBoxT at ho
  split at ho <;> try (cases ho; done)
  rename_i t' x hop
  have e1 := Nat.eq_of_beq_eq_true ho
  subst e1
  have hx' : boxX o = [x] := by unfold boxX; rw [hop]
  rw [hx']
  refine ⟨fun z hz => by rw [hop]; simp [Op.operands]; simpa using hz, fun ε ρ R w hx hM => ?_⟩
  have hx : ρ x = (SV.agg cs).den ε := by
    simp only [List.map_cons, List.map_nil, SV.dens, List.cons.injEq, and_true] at hx
    exact hx
  have hM : Mem R w := hM
  refine res_ok (x_box hop hx) ⟨fun _ => (w.heap.size, undef), by simp only [SV.den, eset_at], ?_⟩
  have ed : SV.dens (eset ε 1 fun _ => (w.heap.size, undef)) cs = SV.dens ε cs := SV.dens_congr (fun s k hs => by rw [eset_ne (by have := ltB_iff.1 hs; omega)]) cs h1
  show Mem (boxZ (eset ε 1 (fun _ => (w.heap.size, undef)) 1 0).1 (SV.dens (eset ε 1 fun _ => (w.heap.size, undef)) cs).toArray :: R) _
  rw [ed, eset_at, ← hc ε]
  exact hM.fresh (below_alloc w _) (fun k => k = w.heap.size) ⟨rfl, Box.new rfl⟩ fun k hk => by rw [hk]; exact ⟨Nat.le_refl _, by simp⟩
theorem load_Z {t : TypeId} {off : Nat} {cs : List SV} {u : SV} (hu : partAt P t cs off = some u) : OpG P (isLoad t) loadX [.ptr 0 0 off] [((0, 0), .famE cs fun b _ vs => boxZ b vs.toArray)] [] u [] := by
  intro o ho
  unfold isLoad at ho
  split at ho <;> try (cases ho; done)
  rename_i t' x hop
  have e1 := Nat.eq_of_beq_eq_true ho
  subst e1
  have hx' : loadX o = [x] := by unfold loadX; rw [hop]
  rw [hx']
  refine ⟨fun z hz => by rw [hop]; simp [Op.operands]; simpa using hz, fun ε ρ R w hx hM => ?_⟩
  simp only [List.map_cons, List.map_nil, SV.dens, SV.den, List.cons.injEq, and_true] at hx
  have hM : Mem (boxZ (ε 0 0).1 (SV.dens ε cs).toArray :: R) w := hM
  have hB := hM.of 0 rfl (φ := Box w (ε 0 0).1 (SV.dens ε cs).toArray) fun S hS => hS.2
  have := partAt_load (P := P) (w := w) (ρ := ρ) (o := o) (x := x) (B := (ε 0 0).1) (O := 0) (ε := ε) hu (fun i u hi => by
    rw [Nat.zero_add]
    refine hB.cell i ?_
    rw [List.getElem?_toArray, dens_get, hi]; rfl) hop (hx.trans (by simp))
  exact res_ok this ⟨ε 1, by rw [eset_self], by rw [eset_self]; exact hM⟩
end
end Go.Sx
