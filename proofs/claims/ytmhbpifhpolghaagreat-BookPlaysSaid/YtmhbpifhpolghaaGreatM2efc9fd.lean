/- EbP2, EbP3, Ky0, Ky1, Ky2. -/
import Derived.Test.YtmhbpifhpolghaaGreatM32075f7
import Derived.Sort.MapsRangeIn
import Derived.RangeFuncSeq
import Derived.RangeFuncBox
import Derived.RangeFuncNested
import Derived.RangeFuncBound
import Derived.RangeFuncCalls
import Derived.RangeFuncLeaves
import Derived.RangeFuncGives
import Derived.RangeFuncKeeps
import Derived.Shelf.Abstract
import Derived.Shelf.RegionOpen
import Derived.WalkKit
import Derived.OwnWalkIn
import Derived.TacticsInMore
import Derived.LoopNIn
import Derived.LoopIn
import Derived.Sort.LoopGhostIn
import Derived.RangeFuncFrom
import Derived.RangeFuncWrites
set_option maxRecDepth 100000
set_option linter.unusedVariables false
set_option linter.unusedSimpArgs false
set_option linter.unusedSectionVars false
section
namespace Go.Proofs.YtmhbpifhpolghaaGreat
open Go.RowKit Go.Lib Go.Tk Go.Shelf Go.Vc Go.Sx
def opL (L : List OwnV) : Int := ((L.filter fun o => decide (o.k.s ≤ 4)).map (·.k.v)).sum
def mD (d : DocV) (L : List OwnV) : Int := d.paid - d.back - d.kept - d.left - opL L
structure DocI (d : DocV) (L : List OwnV) : Prop where
  vals : L.map (·.k.v) = d.vals
  st : ∀ o ∈ L, 1 ≤ o.k.s ∧ o.k.s ≤ 7
  nn : ∀ v ∈ d.vals, 0 ≤ v
  sum : d.vals.sum = d.s.fare
  pen : 0 ≤ d.s.pen
  paid : 0 ≤ d.paid
  back : 0 ≤ d.back
  kept : 0 ≤ d.kept
  left : 0 ≤ d.left
  leftc : d.left ≤ d.credit
  frm : d.frm = tid0 → d.paid = d.s.fare ∧ d.credit = 0
  bnd : d.paid + d.credit ≤ 1099511627776 * d.t.r
structure EI (ds : List DocV) (c : Tid → List OwnV) : Prop where
  doc : ∀ d ∈ ds, DocI d (c d.t)
  non : ∀ d ∈ ds, d.dst = tid0 → mD d (c d.t) + d.credit = 0
  lnk : ∀ d ∈ ds, d.dst ≠ tid0 → ∃ n ∈ ds, n.t = d.dst ∧ n.frm = d.t ∧ mD d (c d.t) + d.credit = n.credit
  tot : (ds.map fun d => mD d (c d.t)).sum = 0
theorem opL_nn {d : DocV} {L : List OwnV} (h : DocI d L) : 0 ≤ opL L := by
  refine sum_nonneg _ fun x hx => ?_
  obtain ⟨o, ho, rfl⟩ := List.mem_map.1 hx
  exact h.nn _ (by rw [← h.vals]; exact List.mem_map_of_mem (List.mem_filter.1 ho).1)
theorem freeO_s {o : OwnV} (h : freeO o = true) : o.k.s = 1 := by
  unfold freeO at h
  simp only [Bool.and_eq_true, decide_eq_true_eq] at h
  exact h.2
def frL (L : List OwnV) : List OwnV := L.filter freeO
theorem opL_turn {s : Int} (hs : 4 < s) : ∀ L : List OwnV, opL (L.map (turnO s)) = opL L - ((frL L).map (·.k.v)).sum
  | [] => rfl
  | o :: L => by
    have ih := opL_turn hs L
    unfold opL frL at ih ⊢
    cases hf : freeO o with
    | true =>
      have h1 := freeO_s hf
      have e : turnO s o = asO o s := by unfold turnO; rw [hf]; rfl
      have hx : ¬ (decide ((asO o s).k.s ≤ 4) = true) := by
        show ¬ (decide (s ≤ 4) = true)
        simp; omega
      rw [List.map_cons, e, List.filter_cons_of_neg (p := fun o : OwnV => decide (o.k.s ≤ 4)) (a := asO o s) hx, List.filter_cons_of_pos (by simp [h1]), List.filter_cons_of_pos hf, List.map_cons, List.map_cons, List.sum_cons, List.sum_cons, ih]
      omega
    | false =>
      have e : turnO s o = o := by unfold turnO; rw [hf]; rfl
      rw [List.map_cons, e, List.filter_cons_of_neg (a := o) (p := freeO) (by simp [hf])]
      by_cases h4 : o.k.s ≤ 4
      · rw [List.filter_cons_of_pos (by simp [h4]), List.filter_cons_of_pos (by simp [h4]), List.map_cons, List.map_cons, List.sum_cons, List.sum_cons, ih]
        omega
      · rw [List.filter_cons_of_neg (by simp [h4]), List.filter_cons_of_neg (by simp [h4]), ih]
theorem turn_vals (s : Int) (L : List OwnV) : (L.map (turnO s)).map (·.k.v) = L.map (·.k.v) := by
  rw [List.map_map]
  refine List.map_congr_left fun o _ => ?_
  show (turnO s o).k.v = o.k.v
  unfold turnO; cases freeO o <;> rfl
theorem turn_st {s : Int} (hs : 1 ≤ s ∧ s ≤ 7) {L : List OwnV} (h : ∀ o ∈ L, 1 ≤ o.k.s ∧ o.k.s ≤ 7) : ∀ o ∈ L.map (turnO s), 1 ≤ o.k.s ∧ o.k.s ≤ 7 := by
  intro o ho
  obtain ⟨x, hx, rfl⟩ := List.mem_map.1 ho
  unfold turnO
  cases freeO x
  · exact h x hx
  · exact hs
def stv (L : List OwnV) : List (Int × Int) := L.map fun o => (o.k.s, o.k.v)
theorem opL_stv : ∀ {L M : List OwnV}, stv L = stv M → opL L = opL M
  | [], [], _ => rfl
  | [], _ :: _, h => by simp [stv] at h
  | _ :: _, [], h => by simp [stv] at h
  | a :: L, b :: M, h => by
    unfold stv at h
    rw [List.map_cons, List.map_cons] at h
    injection h with h1 h2
    injection h1 with hs hv
    have ih := opL_stv h2
    unfold opL at ih ⊢
    by_cases h4 : a.k.s ≤ 4
    · rw [List.filter_cons_of_pos (by simp [h4]), List.filter_cons_of_pos (by simp [← hs, h4]), List.map_cons, List.map_cons, List.sum_cons, List.sum_cons, ih, hv]
    · rw [List.filter_cons_of_neg (by simp [h4]), List.filter_cons_of_neg (by simp [← hs, h4]), ih]
theorem DocI.stv {d : DocV} {L M : List OwnV} (h : DocI d L) (e : stv M = stv L) : DocI d M := by
  have e1 : M.map (·.k.v) = L.map (·.k.v) := by have := congrArg (List.map Prod.snd) e; unfold Go.Proofs.YtmhbpifhpolghaaGreat.stv at this; rwa [List.map_map, List.map_map] at this
  have e2 : M.map (·.k.s) = L.map (·.k.s) := by have := congrArg (List.map Prod.fst) e; unfold Go.Proofs.YtmhbpifhpolghaaGreat.stv at this; rwa [List.map_map, List.map_map] at this
  refine ⟨e1.trans h.vals, fun o ho => ?_, h.nn, h.sum, h.pen, h.paid, h.back, h.kept, h.left, h.leftc, h.frm, h.bnd⟩
  have : o.k.s ∈ L.map (·.k.s) := by rw [← e2]; exact List.mem_map_of_mem ho
  obtain ⟨x, hx, hxe⟩ := List.mem_map.1 this
  rw [← hxe]; exact h.st x hx
theorem EI.stv {ds : List DocV} {c c' : Tid → List OwnV} (h : EI ds c) (e : ∀ t, stv (c' t) = stv (c t)) : EI ds c' := by
  have em : ∀ d, mD d (c' d.t) = mD d (c d.t) := fun d => by unfold mD; rw [opL_stv (e d.t)]
  refine ⟨fun d hd => (h.doc d hd).stv (e d.t), fun d hd h0 => by rw [em]; exact h.non d hd h0, fun d hd h0 => by rw [em]; exact h.lnk d hd h0, ?_⟩
  rw [show (fun d => mD d (c' d.t)) = fun d => mD d (c d.t) from funext em]; exact h.tot
theorem putD_mem {ds : List DocV} {d x : DocV} (h : x ∈ putD ds d) : x = d ∨ (x ∈ ds ∧ x.t ≠ d.t) := by
  obtain ⟨y, hy, e⟩ := List.mem_map.1 h
  by_cases q : y.t = d.t
  · rw [if_pos q] at e; exact .inl e.symm
  · rw [if_neg q] at e; subst e; exact .inr ⟨hy, q⟩
theorem putD_in {ds : List DocV} {d x : DocV} (h : x ∈ ds) : (x.t = d.t ∧ d ∈ putD ds d) ∨ (x.t ≠ d.t ∧ x ∈ putD ds d) := by
  by_cases q : x.t = d.t
  · exact .inl ⟨q, List.mem_map.2 ⟨x, h, by rw [if_pos q]⟩⟩
  · exact .inr ⟨q, List.mem_map.2 ⟨x, h, by rw [if_neg q]⟩⟩
theorem sum_putD {f f' : DocV → Int} {d' : DocV} : ∀ {ds : List DocV} {d : DocV}, (ds.map (·.t)).Nodup → d ∈ ds → d'.t = d.t → (∀ x ∈ ds, x.t ≠ d.t → f' x = f x) → ((putD ds d').map f').sum = (ds.map f).sum - f d + f' d'
  | [], _, _, h, _, _ => by cases h
  | y :: ds, d, hn, hd, ht, hf => by
    rw [List.map_cons, List.nodup_cons] at hn
    unfold putD
    rw [List.map_cons, List.map_cons, List.map_cons, List.sum_cons, List.sum_cons]
    rcases List.mem_cons.1 hd with e | hd2
    · subst e
      rw [if_pos ht.symm]
      have key : ((ds.map fun x => if x.t = d'.t then d' else x).map f').sum = (ds.map f).sum := by
        rw [List.map_map]
        congr 1
        refine List.map_congr_left fun x hx => ?_
        have hne : x.t ≠ d.t := fun e => hn.1 (e ▸ List.mem_map_of_mem hx)
        show f' (if x.t = d'.t then d' else x) = f x
        rw [if_neg (by rw [ht]; exact hne)]
        exact hf x (List.mem_cons_of_mem _ hx) hne
      rw [key]; omega
    · have hne : y.t ≠ d.t := fun e => hn.1 (e ▸ List.mem_map_of_mem (f := fun x : DocV => x.t) hd2)
      rw [if_neg (by rw [ht]; exact hne), hf y List.mem_cons_self hne]
      have ih := sum_putD hn.2 hd2 ht (fun x hx h => hf x (List.mem_cons_of_mem _ hx) h)
      unfold putD at ih
      rw [ih]; omega
theorem nodup_eq {ds : List DocV} (hn : (ds.map (·.t)).Nodup) {x y : DocV} (hx : x ∈ ds) (hy : y ∈ ds) (e : x.t = y.t) : x = y := by
  induction ds with
  | nil => cases hx
  | cons z ds ih =>
    rw [List.map_cons, List.nodup_cons] at hn
    rcases List.mem_cons.1 hx with h1 | h1 <;> rcases List.mem_cons.1 hy with h2 | h2
    · rw [h1, h2]
    · exact absurd (h1 ▸ e ▸ List.mem_map_of_mem (f := fun d : DocV => d.t) h2) hn.1
    · exact absurd (h2 ▸ e ▸ List.mem_map_of_mem (f := fun d : DocV => d.t) h1) hn.1
    · exact ih hn.2 h1 h2
theorem EI.upd {ds : List DocV} {c c' : Tid → List OwnV} (h : EI ds c) (hn : (ds.map (·.t)).Nodup) {d d' : DocV} (hd : d ∈ ds) (ht : d'.t = d.t) (hf : d'.frm = d.frm) (ho : d'.dst = d.dst) (hc : d'.credit = d.credit)
    (hi : DocI d' (c' d.t)) (hm : mD d' (c' d.t) = mD d (c d.t)) (he : ∀ t, t ≠ d.t → c' t = c t) : EI (putD ds d') c' := by
  have old : ∀ x, x ∈ ds → x.t ≠ d.t → c' x.t = c x.t := fun x _ q => he _ q
  have up : ∀ n ∈ ds, ∃ n' ∈ putD ds d', n'.t = n.t ∧ n'.frm = n.frm ∧ n'.credit = n.credit := fun n hn' => by
    rcases putD_in (d := d') hn' with ⟨q, q2⟩ | ⟨q, q2⟩
    · have e : n = d := nodup_eq hn hn' hd (q.trans ht)
      subst e
      exact ⟨d', q2, ht, hf, hc⟩
    · exact ⟨n, q2, rfl, rfl, rfl⟩
  refine ⟨fun x hx => ?_, fun x hx h0 => ?_, fun x hx h0 => ?_, ?_⟩
  · rcases putD_mem hx with rfl | ⟨hx, q⟩
    · rw [ht]; exact hi
    · rw [old x hx (ht ▸ q)]; exact h.doc x hx
  · rcases putD_mem hx with rfl | ⟨hx, q⟩
    · rw [ht, hm, hc]; exact h.non d hd (ho ▸ h0)
    · rw [old x hx (ht ▸ q)]; exact h.non x hx h0
  · have key : ∃ y ∈ ds, y.t = x.t ∧ y.dst = x.dst ∧ mD y (c y.t) + y.credit = mD x (c' x.t) + x.credit := by
      rcases putD_mem hx with rfl | ⟨hx, q⟩
      · exact ⟨d, hd, ht.symm, ho.symm, by rw [ht, hm, hc]⟩
      · exact ⟨x, hx, rfl, rfl, by rw [old x hx (ht ▸ q)]⟩
    obtain ⟨y, hy, e1, e2, e3⟩ := key
    obtain ⟨n, hn', n1, n2, n3⟩ := h.lnk y hy (e2 ▸ h0)
    obtain ⟨n', g1, g2, g3, g4⟩ := up n hn'
    exact ⟨n', g1, by rw [g2, n1, e2], by rw [g3, n2, e1], by rw [← e3, n3, g4]⟩
  · rw [sum_putD (f := fun d => mD d (c d.t)) (f' := fun d => mD d (c' d.t)) hn hd ht (fun x hx q => by rw [old x hx q]), h.tot]
    show 0 - mD d (c d.t) + mD d' (c' d'.t) = 0
    rw [ht, hm]; omega
theorem EI.add {ds : List DocV} {c c' : Tid → List OwnV} (h : EI ds c) {n : DocV} (hfr : ∀ x ∈ ds, x.t ≠ n.t) (h0 : n.dst = tid0) (hi : DocI n (c' n.t)) (hm : mD n (c' n.t) = 0) (hcr : n.credit = 0) (he : ∀ t, t ≠ n.t → c' t = c t) : EI (ds ++ [n]) c' := by
  have mem : ∀ x, x ∈ ds ++ [n] → (x ∈ ds ∧ c' x.t = c x.t) ∨ x = n := fun x hx => by
    rcases List.mem_append.1 hx with hx | hx
    · exact .inl ⟨hx, he _ (hfr x hx)⟩
    · exact .inr (List.mem_singleton.1 hx)
  refine ⟨fun x hx => ?_, fun x hx q => ?_, fun x hx q => ?_, ?_⟩
  · rcases mem x hx with ⟨hx, e⟩ | rfl
    · rw [e]; exact h.doc x hx
    · exact hi
  · rcases mem x hx with ⟨hx, e⟩ | rfl
    · rw [e]; exact h.non x hx q
    · rw [hm, hcr]; rfl
  · rcases mem x hx with ⟨hx, e⟩ | rfl
    · rw [e]
      obtain ⟨y, hy, r⟩ := h.lnk x hx q
      exact ⟨y, List.mem_append_left _ hy, r⟩
    · exact absurd h0 q
  · rw [List.map_append, List.sum_append]
    have : ds.map (fun d => mD d (c' d.t)) = ds.map (fun d => mD d (c d.t)) := List.map_congr_left fun x hx => by rw [he _ (hfr x hx)]
    rw [this, h.tot]
    simp only [List.map_cons, List.map_nil, List.sum_cons, List.sum_nil]
    rw [hm]; rfl
structure EB (B : BookV) : Prop where
  ex : ExOk B
  ks : KeysIn B
  ei : EI B.docs (coupL B)
theorem EB.nodup {B : BookV} (h : EB B) : (B.docs.map (·.t)).Nodup := h.ex.bk.nodup
theorem turnB_coup (B : BookV) (t : Tid) (s : Int) (d : DocV) : coupL (turnB (B.setD d) t s) t = (coupL B t).map (turnO s) := coupL_turn (B.setD d) t s
theorem turnB_coup_ne (B : BookV) {t t' : Tid} (s : Int) (d : DocV) (h : t' ≠ t) : coupL (turnB (B.setD d) t s) t' = coupL B t' := coupL_turn_ne (B.setD d) s h
theorem turnB_docsD (B : BookV) (t : Tid) (s : Int) (d : DocV) : (turnB (B.setD d) t s).docs = putD B.docs d := turnB_docs _ t s
theorem EB.change {B : BookV} (h : EB B) {d d' : DocV} {s : Int} (hs : 4 < s ∧ s ≤ 7) (hd : d ∈ B.docs) (ht : d'.t = d.t) (hsl : d'.s = d.s) (hv : d'.vals = d.vals) (hf : d'.frm = d.frm) (ho : d'.dst = d.dst) (hc : d'.credit = d.credit) (hp : d'.paid = d.paid)
    (hb : 0 ≤ d'.back) (hk : 0 ≤ d'.kept) (hl : 0 ≤ d'.left) (hl2 : d'.left ≤ d.left) (hm : d'.back + d'.kept + d'.left = d.back + d.kept + d.left + ((frL (coupL B d.t)).map (·.k.v)).sum) : EB (turnB (B.setD d') d.t s) := by
  have hi := h.ei.doc d hd
  refine ⟨(h.ex.setD (by rw [hsl]; exact h.ex.sal d hd) ⟨by rw [hsl]; exact (h.ex.sm d hd).nl, by rw [hsl]; exact (h.ex.sm d hd).nt, by rw [hv]; exact (h.ex.sm d hd).nv⟩).turnB d.t s, (h.ks.setD d').turnB d.t s, ?_⟩
  rw [turnB_docsD]
  have e := turnB_coup B d.t s d'
  refine h.ei.upd h.nodup hd ht hf ho hc ?_ ?_ (fun t q => turnB_coup_ne B s d' q)
  · rw [e]
    refine ⟨by rw [turn_vals, hv]; exact hi.vals, turn_st ⟨by omega, hs.2⟩ hi.st, by rw [hv]; exact hi.nn, by rw [hv, hsl]; exact hi.sum, by rw [hsl]; exact hi.pen, by rw [hp]; exact hi.paid, hb, hk, hl, by have := hi.leftc; rw [hc]; omega, fun q => ?_, by rw [hp, hc, ht]; exact hi.bnd⟩
    rw [hp, hc, hsl]; exact hi.frm (hf ▸ q)
  · rw [e]
    unfold mD
    rw [opL_turn hs.1, hp]; omega
structure MadeI (B : BookV) (s : SaleV) : Prop where
  vl : (shareV s.fare (wsOf s)).length ≤ 4
  op : opL (newL s) = s.fare
  vs : (shareV s.fare (wsOf s)).sum = s.fare
  nn : ∀ v ∈ shareV s.fare (wsOf s), 0 ≤ v
  st : ∀ o ∈ newL s, 1 ≤ o.k.s ∧ o.k.s ≤ 7
  pen : 0 ≤ s.pen
  fare : 0 ≤ s.fare
  many : B.docs.length < 32
theorem made_i {B : BookV} {s : SaleV} (ok : SaleOk s) (hm : B.issE s = 0) : MadeI B s := by
  obtain ⟨-, -, hsh, -⟩ := check_shape (issE_check hm)
  obtain ⟨hS, ha, l1, l4, f0, f1⟩ := shape_share ok hsh
  have hp : 0 ≤ s.pen ∧ s.pen ≤ 1125899906842624 := by
    simp only [shapeB, Bool.and_eq_true] at hsh
    obtain ⟨⟨⟨⟨-, -⟩, h3⟩, -⟩, -⟩ := hsh
    simp only [must3, List.all_cons, List.all_nil, Bool.and_true, Bool.and_eq_true, amtB, decide_eq_true_eq] at h3
    exact h3.2
  have hv : shareV s.fare (wsOf s) = shareL s.fare (wsOf s) := by unfold shareV; rw [if_pos hS]
  have hvs : (shareV s.fare (wsOf s)).sum = s.fare := by rw [hv]; exact shareL_sum _ _ ha
  have st1 : ∀ o ∈ newL s, o.k.s = 1 := fun o ho => by
    unfold newL at ho
    obtain ⟨i, -, rfl⟩ := List.mem_map.1 ho
    rfl
  refine ⟨by rw [shareV_len hS, ws_len]; exact l4, ?_, hvs, fun v hx => ?_, fun o ho => by rw [st1 o ho]; decide, hp.1, f0, issE_many hm⟩
  · unfold opL
    rw [List.filter_eq_self.2 fun o ho => by simp [st1 o ho], newL_vals, hvs]
  · rw [hv] at hx
    obtain ⟨i, hi, rfl⟩ := List.getElem_of_mem hx
    have := (shareL_bds (ws_pos ok) ha f0 (i := i) (by rw [shareL_len] at hi; exact hi)).1
    simpa [List.getD_eq_getElem?_getD, hi] using this
theorem nextT_fresh {B : BookV} (h : BookOk B) : ∀ x ∈ B.docs, x.t ≠ B.nextT := fun x hx e => by
  obtain ⟨j, hj, hjd⟩ := List.getElem_of_mem hx
  have := h.docs j x (by rw [List.getElem?_eq_getElem hj, hjd])
  rw [this] at e
  have e : (⟨B.self, (j : Int) + 1⟩ : Tid) = ⟨B.self, (B.docs.length : Int) + 1⟩ := e
  injection e with _ e
  omega
theorem doc_r {B : BookV} (h : BookOk B) {x : DocV} (hx : x ∈ B.docs) : 1 ≤ x.t.r ∧ x.t.r ≤ B.docs.length := by
  obtain ⟨j, hj, hjd⟩ := List.getElem_of_mem hx
  have := h.docs j x (by rw [List.getElem?_eq_getElem hj, hjd])
  rw [this]
  refine ⟨by show 1 ≤ (j : Int) + 1; omega, by show (j : Int) + 1 ≤ _; omega⟩
theorem EB.issued {B : BookV} (h : EB B) {s : SaleV} (ok : SaleOk s) (hs : s.fare < 1099511627776) (hm : B.issE s = 0) : EB (B.issued s) := by
  have m := made_i ok hm
  refine ⟨h.ex.issued ok hm, h.ks.issued s, ?_⟩
  have e := coupL_issued (s := s) (h.ks.next h.ex.bk) m.vl
  have hvl := newL_vals s
  refine h.ei.add (n := docMade B.nextT s) (nextT_fresh h.ex.bk) rfl ?_ ?_ rfl (fun t q => coupL_issued_ne q)
  · show DocI _ (coupL (B.issued s) B.nextT)
    rw [e]
    have := m.fare
    refine ⟨hvl, m.st, m.nn, m.vs, m.pen, m.fare, Int.le_refl _, Int.le_refl _, Int.le_refl _, Int.le_refl _, fun _ => ⟨rfl, rfl⟩, ?_⟩
    show s.fare + 0 ≤ 1099511627776 * ((B.docs.length : Int) + 1)
    omega
  · show mD _ (coupL (B.issued s) B.nextT) = 0
    rw [e]
    unfold mD
    rw [m.op]
    show s.fare - 0 - 0 - 0 - s.fare = 0
    omega
def selL (a b c d : Option OwnV) : List OwnV :=
  match a with
  | none => []
  | some a => match b with
    | none => [a]
    | some b => match c with
      | none => [a, b]
      | some c => match d with
        | none => [a, b, c]
        | some d => [a, b, c, d]
def svO (o : OwnV) : Int × Int := (o.k.s, o.k.v)
theorem selL_stv {a b c d a' b' c' d' : Option OwnV} (h0 : a'.map svO = a.map svO) (h1 : b'.map svO = b.map svO) (h2 : c'.map svO = c.map svO) (h3 : d'.map svO = d.map svO) : stv (selL a' b' c' d') = stv (selL a b c d) := by
  cases a' <;> cases a <;> simp only [Option.map_none, Option.map_some, reduceCtorEq, Option.some.injEq] at h0
  · rfl
  cases b' <;> cases b <;> simp only [Option.map_none, Option.map_some, reduceCtorEq, Option.some.injEq] at h1
  · exact congrArg (fun x => [x]) h0
  cases c' <;> cases c <;> simp only [Option.map_none, Option.map_some, reduceCtorEq, Option.some.injEq] at h2
  · show [svO _, svO _] = [svO _, svO _]
    rw [h0, h1]
  cases d' <;> cases d <;> simp only [Option.map_none, Option.map_some, reduceCtorEq, Option.some.injEq] at h3
  · show [svO _, svO _, svO _] = [svO _, svO _, svO _]
    rw [h0, h1, h2]
  · show [svO _, svO _, svO _, svO _] = [svO _, svO _, svO _, svO _]
    rw [h0, h1, h2, h3]
theorem coupL_sel (B : BookV) (t : Tid) : coupL B t = selL (lkt B.owns ⟨t, 0⟩) (lkt B.owns ⟨t, 1⟩) (lkt B.owns ⟨t, 2⟩) (lkt B.owns ⟨t, 3⟩) := rfl
theorem coupL_setO {B : BookV} {k : Kid} {o o' : OwnV} (h : lkt B.owns k = some o) (e : svO o' = svO o) (t : Tid) : stv (coupL (B.setO k o') t) = stv (coupL B t) := by
  have key : ∀ i : Int, (lkt (B.setO k o').owns ⟨t, i⟩).map svO = (lkt B.owns ⟨t, i⟩).map svO := fun i => by
    rw [setO_some h]
    show (lkt (putt B.owns k o') ⟨t, i⟩).map svO = _
    rw [lkt_put]
    by_cases q : k = ⟨t, i⟩
    · rw [if_pos q, ← q, h]
      show some (svO o') = some (svO o)
      rw [e]
    · rw [if_neg q]
  rw [coupL_sel, coupL_sel]
  exact selL_stv (key 0) (key 1) (key 2) (key 3)
theorem setO_same (B : BookV) (k : Kid) (o : OwnV) : (B.setO k o).docs = B.docs ∧ (B.setO k o).self = B.self ∧ (B.setO k o).n = B.n ∧ (B.setO k o).helds = B.helds := by
  unfold BookV.setO; cases (lkt B.owns k).isSome <;> exact ⟨rfl, rfl, rfl, rfl⟩
theorem ExOk.setO {B : BookV} (h : ExOk B) {k : Kid} {o : OwnV} (ho : OwnOk o) : ExOk (B.setO k o) := by
  obtain ⟨e1, e2, e3, -⟩ := setO_same B k o
  refine ⟨⟨by rw [e2, e3]; exact h.bk.self, by rw [e3]; exact h.bk.n, by rw [e1, e2]; exact h.bk.docs, by rw [e1]; exact h.bk.many⟩, by rw [e1]; exact h.sal, by rw [e1]; exact h.sm, fun k' x hx => ?_⟩
  cases hl : lkt B.owns k with
  | none => rw [setO_none hl] at hx; exact h.own k' x hx
  | some y =>
    rw [setO_some hl] at hx
    have hx : lkt (putt B.owns k o) k' = some x := hx
    rw [lkt_put] at hx
    by_cases q : k = k'
    · rw [if_pos q] at hx; cases hx; exact ho
    · rw [if_neg q] at hx; exact h.own k' x hx
theorem EB.setO {B : BookV} (h : EB B) {k : Kid} {o o' : OwnV} (hl : lkt B.owns k = some o) (e : svO o' = svO o) : EB (B.setO k o') := by
  have ho := h.ex.own k o hl
  have ev : o'.k.v = o.k.v := (Prod.mk.inj e).2
  refine ⟨h.ex.setO (show OwnOk o' from by unfold OwnOk at ho ⊢; rw [ev]; exact ho), h.ks.setO k o', ?_⟩
  rw [(setO_same B k o').1]
  exact h.ei.stv fun t => coupL_setO hl e t
end Go.Proofs.YtmhbpifhpolghaaGreat
end
section
namespace Go.Tk
open Go.RowKit Go.Lib Go.Maps
variable {κ : Type} {P : Program} {k : TypeId}
theorem Ranging.of_walks {K : KeyKind P k κ} {w w' : World} {r b : Nat} {L left : List (κ × Value)} (h : Ranging K w r b L left) (hk : KeepsWalks w w') : Ranging K w' r b L left := by
  obtain ⟨es, clock, since, seen, hne, h1, h2, rest⟩ := h
  exact ⟨es, clock, since, seen, hne, hk.same r _ h1 rfl, hk.same b _ h2 rfl, rest⟩
theorem grown_of_below {w w' : World} (h : Below w.heap.size w w') : w.grownBy w' none := ⟨h.os, h.tape, h.output, h.size, fun k hk _ => h.block k hk⟩
section
variable {F : Fence} {n : Nat} {w : World} {ops : Array Oper} {rest : List Oper} {o : Oper} {a : Act} {Q : Exit → Act → World → Prop} {K : KeyKind P k κ} {b : Nat} {L : List (κ × Value)} {e : TypeId}
theorem wpListIn_range_mapA (hg : o.guard = none) (m : Operand) (t : TypeId) (hop : o.op = .range t m) (ht : P.underlying t = some (.map k e)) (hm : a.eval m = .map (some b)) (h : MapAt K w b L)
    (hK : ∀ w', Ranging K w' w.heap.size b L L → Below w.heap.size w w' → wpListIn F n P ops Q rest (a.put o.dst (.pointer (some ⟨w.heap.size, 0, none⟩))) w') : wpListIn F n P ops Q (o :: rest) a w := by
  refine wpListIn_plain hg fun K' hK' => ?_
  obtain ⟨w', hrun, h1, h2⟩ := h.range ht
  unfold Oper.wpIn
  refine ⟨?_, ?_⟩
  · simp [Oper.about, hop]
  · rw [Oper.semAt_plain F _ _ (by rw [hop]; intro c hc'; cases hc')]
    simp [execOp, hop, hm, hrun, Result.andThen]
    exact hK' _ _ (hK w' h1 h2)
theorem wpListIn_next_mapA {left : List (κ × Value)} {r : Nat} (hg : o.guard = none) (it : Operand) (hop : o.op = .next it false) (hit : a.eval it = .pointer (some ⟨r, 0, none⟩)) (h : Ranging K w r b L left)
    (hDone : left = [] → wpListIn F n P ops Q rest (a.put o.dst (.tuple #[.bool false])) w)
    (hMore : ∀ p left' w', left.Perm (p :: left') → p ∈ L → Ranging K w' r b L left' → w.grownBy w' (some r) → (Instr.entry (.pointer (some ⟨r, 0, none⟩))).run P w' = .ok (.tuple #[K.kv p.1, p.2]) w' →
      wpListIn F n P ops Q rest (a.put o.dst (.tuple #[.bool true, K.kv p.1, p.2])) w') : wpListIn F n P ops Q (o :: rest) a w := by
  refine wpListIn_plain hg fun K' hK' => ?_
  unfold Oper.wpIn
  refine ⟨by simp [Oper.about, hop], ?_⟩
  rw [Oper.semAt_plain F _ _ (by rw [hop]; intro c hc'; cases hc')]
  rcases h.next o.type with ⟨h0, hrun⟩ | ⟨p, left', w', h1, h2, hrun, h3, h4, h5⟩
  · simp [execOp, hop, hit, hrun, Result.andThen]
    exact hK' _ _ (hDone h0)
  · simp [execOp, hop, hit, hrun, Result.andThen]
    exact hK' _ _ (hMore p left' w' h1 h2 h3 h4 h5)
end
end Go.Tk
end
section
namespace Go.Proofs.YtmhbpifhpolghaaGreat
open Go.RowKit Go.Lib Go.Tk Go.Shelf Go.Maps
attribute [local go_sem] Oper.semAt_some
def KeysT1 : Nat := 143
abbrev encT (x : Tid) : Array Value := #[tidV x]
set_option maxHeartbeats 4000000 in
theorem keysT1_in (F : Fence) (n : Nat) (hF : F.fn KeysT1) (hro : F.round = none) (hn : 1 ≤ n) (l Bn b : Nat) (L : List (Tid × Value)) (J Jx : List Tid → World → Prop) (W : World) (hA : AbidesFrom W.heap.size J)
    (hm : MapAt tidK W b L) (hBn : W.cell? ⟨Bn, 0, none⟩ = some (.map (some b)))
    (hY : ∀ pre x W1, J pre W1 → pre.length < L.length → YieldAt F (n - 1) Tryz.prog l (encT x) W1 fun e W' =>
      (e = .returned (.bool true) ∧ J (pre ++ [x]) W' ∧ KeepsWalks W1 W') ∨ (e = .returned (.bool false) ∧ Jx (pre ++ [x]) W')) (h0 : J [] W) :
    CallsIn F n Tryz.prog KeysT1 #[.func (.yield l) #[] #[], .pointer (some ⟨Bn, 0, none⟩)] W fun e W' => (∃ v, e = .returned v) ∧
      ((∃ ys, ys.Perm (L.map (·.1)) ∧ J ys W') ∨ (∃ pre, (∃ rest, (pre ++ rest).Perm (L.map (·.1))) ∧ Jx pre W')) := by
  have HY := hid hY
  have HA := hid hA
  have hsz : Aside (∀ x : Nat, x = W.heap.size → x = W.heap.size) := fun _ e => e
  clear hY hA
  refine callsIn_of_wp Tryz.func143 rfl hF ?_ hro
  simp only [Tryz.ntmps143, List.size_toArray, List.length_cons, List.length_nil, Nat.reduceAdd, Nat.reduceSub, Array.replicate_succ, Array.replicate_zero, List.push_toArray, List.append_toArray, List.nil_append, List.cons_append]
  gi_wp2_with (first
    | (gi_at_range; refine wpListIn_range_mapA rfl _ 106 rfl Tryz.underlying106 rfl hm ?_; intro w1 hrg hb1)
    | gi_in)
  go_frame
  have hJ1 := HA.out [] W w1 none h0 (grown_of_below hb1) (fun r e => by cases e)
  have Hrg := hid hrg
  have HB1 := hid hb1.size
  clear hrg hb1 hm hBn h0
  gi_loopg [] L.length (fun k wr => ∃ (done : List Tid) (left : List (Tid × Value)), k = left.length ∧ Hid (Ranging tidK wr W.heap.size b L left) ∧ Hid ((done ++ left.map (·.1)).Perm (L.map (·.1))) ∧ J done wr ∧ Hid (W.heap.size ≤ wr.heap.size))
  case atStart => exact ⟨[], L, rfl, Hrg, (by rw [List.nil_append]; exact List.Perm.refl _), hJ1, HB1⟩
  case round =>
    obtain ⟨done, left, rfl, hr, hp, hj, hs⟩ := hrel
    gi_wp2_with (first
      | (gi_at_next; refine wpListIn_next_mapA rfl _ rfl rfl hr.out ?_ ?_)
      | gi_in)
    · intro hnil
      subst hnil
      have hp' : done.Perm (L.map (·.1)) := by have := hp.out; simpa using this
      gi_wp2
      go_end0
      exact ⟨⟨_, rfl⟩, .inl ⟨done, hp', hj⟩⟩
    · intro pk pv left' w2 hpl hmem hr2 hg hen
      have hr2' := hid hr2
      have hj2 := HA.out done wr w2 (some W.heap.size) hj hg (fun r e => by cases e; exact ⟨Nat.le_refl _, by
        obtain ⟨es, clock, since, seen, -, h1, -⟩ := hr.out
        exact ⟨_, h1, rfl⟩⟩)
      have hlen := hpl.length_eq
      simp only [List.length_cons] at hlen
      have hp2 : (done ++ [pk] ++ left'.map (·.1)).Perm (L.map (·.1)) := by
        refine List.Perm.trans ?_ hp.out
        rw [List.append_assoc]
        have hq : (pk :: left'.map (fun p : Tid × Value => p.1)).Perm (left.map (fun p : Tid × Value => p.1)) := (List.Perm.map (fun p : Tid × Value => p.1) hpl).symm
        exact List.Perm.append_left done hq
      have hs2 : W.heap.size ≤ w2.heap.size := Nat.le_trans hs.out hg.size
      have hdl : done.length < L.length := by
        have := hp2.length_eq
        simp only [List.length_append, List.length_cons, List.length_nil, List.length_map] at this
        omega
      have HP2 := hid hp2
      have HS2 := hid hs2
      have HLE := hid hlen
      obtain ⟨w3, hw3⟩ : ∃ w3, w2.alloc (.cells #[.int .u8 pk.c, .int .u64 pk.r] 39) = w3 := ⟨_, rfl⟩
      have hb3 : Below w2.heap.size w2 w3 := by rw [← hw3]; exact (Below.refl w2.heap.size w2).alloc (Nat.le_refl _) _
      have hj3 := HA.out done w2 w3 none hj2 (grown_of_below hb3) (fun r e => by cases e)
      have hr3 := hid (hr2.of_walks (KeepsWalks.alloc w2 (.cells #[.int .u8 pk.c, .int .u64 pk.r] 39)))
      rw [hw3] at hr3
      have hB3 : w3.heap[w2.heap.size]? = some (.cells #[.int .u8 pk.c, .int .u64 pk.r] 39 (0, 0)) := by rw [← hw3]; exact World.alloc_heap_new w2 _
      have hcA : w3.cell? ⟨w2.heap.size, 0, none⟩ = some (.int .u8 pk.c) := by simp [World.cell?, hB3]
      have hcB : w3.cell? ⟨w2.heap.size, 1, none⟩ = some (.int .u64 pk.r) := by simp [World.cell?, hB3]
      have hs3 := hid (Nat.le_trans hs2 hb3.size)
      have HP2 := hid hp2
      have HLE := hid hlen
      clear hp hr hj hs hpl hmem hg hp2 hs2 hlen hr2 hr2' hj2 hb3 hB3
      obtain ⟨fn, tmps, assign, body, hy, hR⟩ := HY.out done pk w3 hj3 hdl
      simp only [encT, show tidV pk = .agg #[.int .u8 pk.c, .int .u64 pk.r] from rfl] at hy
      simp only [show tidK.kv pk = .agg #[.int .u8 pk.c, .int .u64 pk.r] from rfl] at hen ⊢
      gi_wp2
      refine hR.mono ?_
      rintro e W3 (⟨rfl, hJ3, hk3⟩ | ⟨rfl, hJx3⟩)
      · have hr4 := hid (hr3.out.of_walks hk3)
        have hs4 := hid (Nat.le_trans hs3.out hk3.1)
        have hle : left'.length < left.length := by have := HLE.out; omega
        gi_wp2
        gi_roundg left'.length
        case rel => exact ⟨done ++ [pk], left', rfl, hr4, HP2, hJ3, hs4⟩
        case measure => exact hle
      · gi_wp2
        refine bodyPost_ret (results_none rfl _ _ _) rfl ?_
        exact ⟨⟨_, rfl⟩, .inr ⟨done ++ [pk], ⟨_, HP2.out⟩, hJx3⟩⟩
end Go.Proofs.YtmhbpifhpolghaaGreat
end
section
namespace Go.Proofs.YtmhbpifhpolghaaGreat
open Go.RowKit Go.Lib Go.Tk Go.Shelf Go.Maps
attribute [local go_sem] Oper.semAt_some
attribute [-go_sem] loadCellsFrom
def tcL (x : Tid) : List Value := [.int .u8 x.c, .int .u64 x.r]
theorem tkrow : (Tryz.prog.info? 39).map (fun i => (i.zero, i.size, i.bytes)) = some (some (.agg #[.int .u8 0, .int .u64 0]), 2, 16) := by kernel_rfl
def tBox (W : World) (B : Nat) (x : Tid) : Prop := W.heap[B]? = some (.cells #[.int .u8 x.c, .int .u64 x.r] 39 (0, 0))
theorem tBox.kept {W W' : World} {row : Option Nat} {B : Nat} {x : Tid} (h : tBox W B x) (hg : W.grownBy W' row) (hr : ∀ r, row = some r → ∃ o : Obj, W.heap[r]? = some o ∧ o.isCells = false) : tBox W' B x :=
  (hg.block B (Array.getElem?_eq_some_iff.1 h).1 (fun e => by
    obtain ⟨o, ho, hc⟩ := hr B e.symm
    rw [show W.heap[B]? = _ from h] at ho
    cases ho
    cases hc)).trans h
set_option maxHeartbeats 8000000 in
theorem appendT_in (F : Fence) (n : Nat) (hF : F.fn 182) (hro : F.round = none) (hn : 3 ≤ n) (gf : Nat) (lb : Array Value) (hFg : F.fn gf) (eg : ∀ args w, (callFunc gf args).run Tryz.prog w = .ok (.enter gf args) w)
    (S Sp : List Tid → Prop) (N : Nat) (hN : N ≤ 1000000000) (w w0 : World) (hb0 : Below w0.heap.size w0 w) (hseq : SeqStopsK F (n - 1) Tryz.prog gf lb encT KeepsWalks S Sp N w0) :
    CallsIn F n Tryz.prog 182 #[.slice none 0 0, .func (.func gf) #[] lb] w fun e w' => ∃ v ss, e = .returned v ∧ S ss ∧ w'.ownsRow w.heap.size 39 2 v ss.length (cellsL tcL ss) ∧ (v = .slice none 0 0 ↔ ss = []) ∧ Below w.heap.size w w' := by
  have h1 : 1 ≤ n := by omega
  refine callsIn_of_wp_marks Tryz.func182 rfl hF ?_ hro
  simp only [Tryz.ntmps182, List.size_toArray, List.length_cons, List.length_nil, Nat.reduceAdd, Nat.reduceSub, Array.replicate_succ, Array.replicate_zero, List.push_toArray, List.append_toArray, List.nil_append, List.cons_append]
  gi_wp2
  have bO := Boxed.new w 126 (.slice none 0 0)
  have hB0 : Below w.heap.size w (w.alloc (.cells #[.slice none 0 0] 126)) := (Below.refl _ w).alloc (Nat.le_refl _) _
  have hI1 := Own.from (holdsRow_own w.heap.size w.heap.size 126 39 2 (fun pre : List Tid => pre.length) (fun pre => cellsL tcL pre) (fun pre v => v = .slice none 0 0 ↔ pre = [])) (w.alloc (.cells #[.slice none 0 0] 126)).heap.size
  have hI2 : OwnFrom (w.alloc (.cells #[.slice none 0 0] 126)).heap.size (fun (_ : List Tid) W => Below w.heap.size w W) := ownFrom_below (Nat.le_refl _) (by simp)
  refine wpIn_rangeFunc_ownH hro h1 (gf := gf) (lb := lb) rfl hFg eg hseq (fun h k => walksK_t h k) (fun W l o o' h1 h2 h3 h4 => walksK_b (w := w.alloc (.cells #[.slice none 0 0] 126)) W l o o' h1 h2 h3 h4) (hb0.trans (hB0.mono hb0.size)) (fun _ => rfl)
    (fun pre W => (∃ v, Boxed W w.heap.size 126 v ∧ W.ownsRow w.heap.size 39 2 v pre.length (cellsL tcL pre) ∧ (v = .slice none 0 0 ↔ pre = [])) ∧ Below w.heap.size w W)
    (fun _ _ _ => False)
    (OwnFrom.and hI1 hI2)
    (fun _ _ _ _ _ hs _ _ => hs)
    ⟨⟨_, bO, World.ownsRow_nil _ _ _ _, by simp⟩, hB0⟩
    (fun x a' W => ∃ B, tBox W B x ∧ a' = { tmps := #[.slice none 0 0, .func (.func gf) #[] lb, .pointer (some ⟨w.heap.size, 0, none⟩), undef, .slice none 0 0, .pointer (some ⟨B, 0, none⟩), .func (.func gf) #[] lb, tidV x, undef, undef, undef, undef, undef], defers := [] })
    (fun x a' => Own.from (fun _ _ _ _ hs hg hr => by obtain ⟨B, h1, h2⟩ := hs; exact ⟨B, h1.kept hg hr, h2⟩) _) ?assign ?body ?done ?stop
  case assign =>
    intro l pre x W K hI hK
    simp only [encT, show tidV x = .agg #[.int .u8 x.c, .int .u64 x.r] from rfl]
    gi_wp2
    obtain ⟨⟨v, hv, hrow, hn⟩, hB⟩ := hI
    exact hK _ _ ((KeepsOthers.alloc W _).from _) (KeepsWalks.alloc W _) ⟨⟨v, hv.alloc _, World.ownsRow.alloc hrow _, hn⟩, hB.alloc hB.size _⟩ ⟨W.heap.size, World.alloc_heap_new W _, rfl⟩
  case stop =>
    rintro D c pre W _ _ h _
    exact h.elim
  case done =>
    rintro D ys W hD hS ⟨⟨v, hv, hrow, hn⟩, hB⟩ hK
    have hc := hv.cell
    gi_wp2
    refine ⟨by simp, .inl ⟨_, _, rfl, run_takeDeferred hK, ?_⟩⟩
    exact ⟨_, results_tmp rfl _ _ _, v, ys, rfl, hS, ownsRow_putObj hrow _ hK rfl, hn, hB.grown (grownBy_putObj' W D _) hB.size (fun k e => by cases e; simp at hD; omega)⟩
  case body =>
    rintro l pre x a' W hl hlo ⟨⟨v, hv, hrow, hn⟩, hB⟩ ⟨B, hbx, rfl⟩ hlt
    have hc0 := hv.cell
    have hf0 := hv.frozen
    have cA : W.cell? ⟨B, 0, none⟩ = some (.int .u8 x.c) := by simp [World.cell?, show W.heap[B]? = _ from hbx]
    have cB : W.cell? ⟨B, 1, none⟩ = some (.int .u64 x.r) := by simp [World.cell?, show W.heap[B]? = _ from hbx]
    have ld : Sem.run Tryz.prog (loadCellsFrom ⟨B, 0, none⟩ 0 2 #[]) W = .ok #[.int .u8 x.c, .int .u64 x.r] W := run_loadCellsFrom_list Tryz.prog W ⟨B, 0, none⟩ (tcL x) 2 rfl (fun i u hi => by
      rcases i with _ | _ | i
      · exact cA.trans hi
      · exact cB.trans hi
      · cases hi)
    obtain ⟨i0, hi, hz0, hz1, hz2⟩ := info_parts tkrow
    obtain ⟨va, vc, rfl, -, -, -⟩ := own_slice hrow
    have hsz : w.heap.size ≤ W.heap.size := hB.size
    have hone : ∀ v ∈ tcL x, v.oneCell' = true := by intro v hv; simp [tcL] at hv; rcases hv with rfl | rfl <;> rfl
    have hcl : ∀ (j : Nat) (u : Value), (tcL x)[j]? = some u → (W.alloc (.cells #[.int .u8 x.c, .int .u64 x.r] 39)).cell? ((Addr.mk W.heap.size 0 none).add j) = some u := fun i u hi => by
        rcases i with _ | _ | i
        · exact (cell_new (w := W) (b := W.heap.size) rfl).trans hi
        · exact (cell_new (w := W) (b := W.heap.size) rfl).trans hi
        · cases hi
    gi_wp2_with (first
      | (gi_at_builtin; refine wpListIn_append_own _ rfl _ _ 126 rfl w.heap.size 39 i0 _ 2 16 Tryz.underlying126 hi hz0 hz1 hz2 rfl (by decide) _ _ _ rfl (World.ownsRow.alloc hrow _) ⟨W.heap.size, 0, none⟩ 1 1 (tcL x) rfl rfl hcl hone (by unfold maxLen; omega) (by omega) (by simp; omega) ?_
         intro v' w' hown' hgrow' hnil'
         obtain ⟨g', cap', rfl⟩ := ownsRow_succ hown'
         obtain ⟨hv1, hv2, hr2, hkk, hbb⟩ := hv.appended (n₀ := w.heap.size) (by decide) hrow hsz (Nat.le_refl _) hown' hgrow'
         have q1 := hv1.cell
         have q2 := hv1.frozen
         go_frame)
      | gi_in)
    refine ⟨hkk.from _, hkk.walks, ⟨_, hv2, ?_, by simp⟩, hB.trans hbb⟩
    rw [List.length_append, cellsL_snoc]
    exact hr2
end Go.Proofs.YtmhbpifhpolghaaGreat
end
