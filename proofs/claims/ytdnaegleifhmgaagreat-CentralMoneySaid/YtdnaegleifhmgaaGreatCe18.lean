/- CENTRAL 18 (plain): a ledger stays what it must be; how coupons change. -/
import Derived.Test.YtdnaegleifhmgaaGreatM6fdd07c
namespace Go.Proofs.YtdnaegleifhmgaaGreat
set_option maxRecDepth 100000
open Go.RowKit Go.Lib Go.Tk Go.Shelf Go.Vc Go.Sx
set_option linter.unusedVariables false
set_option linter.unusedSimpArgs false
theorem lkt_issS (t : Tid) (s : SaleV) (vs : List Int) (S : SlipsV) (k : Kid) : ∀ n : Nat, lkt (issS t s vs S n) k = if k.t = t ∧ 0 ≤ k.i ∧ k.i < (n : Int) then some (slipNew k (s.legs.getD k.i.toNat leg0) (vs.getD k.i.toNat 0)) else lkt S k
  | 0 => by rw [if_neg (by omega)]; rfl
  | n + 1 => by
    show lkt (putt (issS t s vs S n) ⟨t, (n : Int)⟩ (slipNew ⟨t, (n : Int)⟩ (s.legs.getD n leg0) (vs.getD n 0))) k = _
    rw [lkt_put, lkt_issS t s vs S k n]
    by_cases g : (⟨t, (n : Int)⟩ : Kid) = k
    · subst g
      rw [if_pos rfl, if_pos (by show t = t ∧ 0 ≤ (n : Int) ∧ (n : Int) < ((n + 1 : Nat) : Int); exact ⟨rfl, by omega, by omega⟩)]
      show some _ = some (slipNew _ (s.legs.getD (n : Int).toNat leg0) (vs.getD (n : Int).toNat 0))
      rw [Int.toNat_natCast]
    · rw [if_neg g]
      by_cases q : k.t = t ∧ 0 ≤ k.i ∧ k.i < (n : Int)
      · rw [if_pos q, if_pos ⟨q.1, q.2.1, by omega⟩]
      · rw [if_neg q, if_neg (fun q2 => by
          obtain ⟨q3, q4, q5⟩ := q2
          refine q ⟨q3, q4, ?_⟩
          have : k.i ≠ (n : Int) := fun e => g (by obtain ⟨kt, ki⟩ := k; simp only at q3 e; rw [q3, e])
          omega)]
theorem issS_nd {S : SlipsV} (h : (S.map (·.1)).Nodup) (t : Tid) (s : SaleV) (vs : List Int) : ∀ n, ((issS t s vs S n).map (·.1)).Nodup
  | 0 => h
  | n + 1 => putt_nodup (issS_nd h t s vs n) _ _
structure Iss (B : LedV) (who : Int) (s : SaleV) : Prop where
  few : cntC B.docs who < 32
  chk : checkE s B.n = 0
  car : who < B.n
theorem iss_of {B : LedV} {who : Int} {s : SaleV} (h : issLE (cntC B.docs who) B.n who s = 0) : Iss B who s := by
  unfold issLE at h
  rcases Bool.eq_false_or_eq_true (decide ((32 : Int) < ((cntC B.docs who : Nat) : Int) + 1)) with e | e <;> rw [e] at h
  · cases h
  · have h : makeE who ((cntC B.docs who : Nat) + 1) s B.n = 0 := h
    have e := of_decide_eq_false e
    unfold makeE at h
    split at h
    · cases h
    · rename_i q
      refine ⟨by omega, h, ?_⟩
      cases g : ticketB who ((cntC B.docs who : Nat) + 1) B.n with
      | false => exact absurd (.inr g) q
      | true =>
        unfold ticketB at g
        simp only [Bool.and_eq_true, decide_eq_true_eq] at g
        exact g.1.1
theorem cnt_app (ds : List DocV) (d : DocV) (c : Int) : cntC (ds ++ [d]) c = cntC ds c + (if d.t.c = c then 1 else 0) := by
  unfold cntC
  rw [List.filter_append, List.length_append]
  by_cases e : d.t.c = c <;> simp [e]
def nextC (B : LedV) (who : Int) : Tid := ⟨who, (cntC B.docs who : Int) + 1⟩
theorem shareV_length {s : SaleV} (ok : SaleOk s) {n : Int} (h : checkE s n = 0) : (shareV s.fare (wsOf s)).length = s.legs.length ∧ 1 ≤ s.legs.length ∧ s.legs.length ≤ 4 := by
  obtain ⟨-, -, hsh, -⟩ := check_shape h
  obtain ⟨hS, -, l1, l4, -, -⟩ := shape_share ok hsh
  exact ⟨by rw [shareV_len hS, ws_len], l1, l4⟩
theorem LedG.fresh {B : LedV} (h : LedG B) (who : Int) : nextC B who ∉ B.docs.map (·.t) := fun q => by
  have := (h.ser who _).1 q
  omega
theorem LedG.nokey {B : LedV} (h : LedG B) (who : Int) {k : Kid} (e : k.t = nextC B who) : lkt B.slips k = none := by
  cases g : lkt B.slips k with
  | none => rfl
  | some s =>
    obtain ⟨d, hd, h1, -⟩ := (h.keys k).1 (by rw [g]; rfl)
    exact absurd (List.mem_map.2 ⟨d, hd, by rw [h1, e]⟩) (h.fresh who)
theorem LedG.issued {B : LedV} (h : LedG B) {who : Int} (hw : 0 ≤ who ∧ who ≤ 255) {s : SaleV} (ok : SaleOk s) (i : Iss B who s) : LedG (issB B (nextC B who) s) := by
  obtain ⟨vl, l1, l4⟩ := shareV_length ok i.chk
  have hd : ∀ d ∈ (issB B (nextC B who) s).docs, d ∈ B.docs ∨ d = docMade (nextC B who) s := fun d q => by
    rcases List.mem_append.1 (show d ∈ B.docs ++ [docMade (nextC B who) s] from q) with q | q
    · exact .inl q
    · exact .inr (List.mem_singleton.1 q)
  have hc : ∀ c, cntC (issB B (nextC B who) s).docs c = cntC B.docs c + (if who = c then 1 else 0) := fun c => cnt_app B.docs (docMade (nextC B who) s) c
  have few := i.few
  have hl : ∀ k, lkt (issB B (nextC B who) s).slips k = if k.t = nextC B who ∧ 0 ≤ k.i ∧ k.i < ((shareV s.fare (wsOf s)).length : Int) then some (slipNew k (s.legs.getD k.i.toNat leg0) ((shareV s.fare (wsOf s)).getD k.i.toNat 0)) else lkt B.slips k := fun k => lkt_issS (nextC B who) s (shareV s.fare (wsOf s)) B.slips k _
  have ht : TidOk (nextC B who) := ⟨hw, by show 0 ≤ (cntC B.docs who : Int) + 1; omega, by show (cntC B.docs who : Int) + 1 ≤ _; omega⟩
  have hcase : ∀ k s', lkt (issB B (nextC B who) s).slips k = some s' → lkt B.slips k = some s' ∨ (k.t = nextC B who ∧ (0 ≤ k.i ∧ k.i < (s.legs.length : Int)) ∧ s' = slipNew k (s.legs.getD k.i.toNat leg0) ((shareV s.fare (wsOf s)).getD k.i.toNat 0)) := fun k s' e => by
    rw [hl k] at e
    split at e
    · rename_i q
      cases e
      exact .inr ⟨q.1, ⟨q.2.1, by rw [← vl]; exact q.2.2⟩, rfl⟩
    · exact .inl e
  have hn : (B.docs.map (·.t) ++ [nextC B who]).Nodup := by
    rw [List.nodup_append]
    exact ⟨h.ok.nodup, by simp, fun x hx y hy e => by simp only [List.mem_singleton] at hy; rw [e, hy] at hx; exact h.fresh who hx⟩
  have hdt : (issB B (nextC B who) s).docs.map (·.t) = B.docs.map (·.t) ++ [nextC B who] := by
    show (B.docs ++ [docMade (nextC B who) s]).map (·.t) = _
    rw [List.map_append]; rfl
  obtain ⟨-, -, -, hpr⟩ := check_shape i.chk
  refine ⟨⟨h.ok.n, fun k s' e => ?_, fun k s' e => ?_, fun k s' e => ?_, fun d q => ?_, fun d q => ?_, fun d q => ?_, by rw [hdt]; exact hn, fun d q => ?_⟩, fun c => ?_, fun c r => ?_, fun d q => ?_, fun d q => ?_, issS_nd h.knd _ _ _ _, fun k => ?_, fun k s' e => ?_⟩
  · rcases hcase k s' e with g | ⟨g1, g2, rfl⟩
    · exact h.ok.key k s' g
    · exact ⟨rfl, by rw [g1]; exact ht, by omega, by omega⟩
  · rcases hcase k s' e with g | ⟨g1, g2, rfl⟩
    · exact h.ok.v k s' g
    · have := share_bd ok i.chk k.i.toNat
      show I64 ((shareV s.fare (wsOf s)).getD k.i.toNat 0)
      unfold I64; omega
  · rcases hcase k s' e with g | ⟨g1, g2, rfl⟩
    · exact h.ok.st k s' g
    · exact ⟨⟨by show (0 : Int) ≤ 1; decide, by show (1 : Int) ≤ 255; decide⟩, by show (0 : Int) ≤ 0; decide, by show (0 : Int) ≤ _; decide⟩
  · rcases hd d q with q | rfl
    · exact h.ok.sal d q
    · exact ok
  · rcases hd d q with q | rfl
    · exact h.ok.pr d q
    · exact hpr
  · rcases hd d q with q | rfl
    · exact h.ok.vals d q
    · show (shareV s.fare (wsOf s)).length ≤ 4; omega
  · rcases hd d q with q | rfl
    · exact h.ok.tid d q
    · exact ht
  · rw [hc c]
    have := h.cnt c
    split
    · rename_i e; subst e; omega
    · omega
  · rw [hdt, hc c, List.mem_append, h.ser c r, List.mem_singleton]
    unfold nextC
    by_cases e : who = c
    · subst e
      rw [if_pos rfl]
      simp only [Tid.mk.injEq, true_and]
      omega
    · rw [if_neg e]
      simp only [Tid.mk.injEq]
      constructor
      · rintro (g | g)
        · exact ⟨g.1, by omega⟩
        · exact absurd g.1.symm e
      · intro g; exact .inl ⟨g.1, by omega⟩
  · rcases hd d q with q | rfl
    · exact h.car d q
    · exact i.car
  · rcases hd d q with q | rfl
    · exact h.vl d q
    · show 1 ≤ (shareV s.fare (wsOf s)).length; omega
  · rw [hl k]
    constructor
    · intro g
      split at g
      · rename_i q
        exact ⟨docMade (nextC B who) s, List.mem_append_right _ (List.mem_singleton.2 rfl), q.1.symm, q.2⟩
      · obtain ⟨d, q, g2⟩ := (h.keys k).1 g
        exact ⟨d, List.mem_append_left _ q, g2⟩
    · rintro ⟨d, q, g2⟩
      rcases hd d q with q | rfl
      · split
        · rfl
        · exact (h.keys k).2 ⟨d, q, g2⟩
      · rw [if_pos ⟨g2.1.symm, g2.2⟩]; rfl
  · rcases hcase k s' e with g | ⟨g1, g2, rfl⟩
    · exact h.pl k s' g
    · have pc : 0 ≤ k.t.c ∧ k.t.c < B.n := by rw [g1]; exact ⟨hw.1, i.car⟩
      exact { car := pc, st := ⟨by show (1 : Int) ≤ 1; decide, by show (1 : Int) ≤ 7; decide⟩, paid := fun q => Bool.noConfusion (show false = true from q), way := fun q => Bool.noConfusion (show false = true from q) }
theorem issued_old {B : LedV} (h : LedG B) {who : Int} {s : SaleV} {k : Kid} {x : SlipV} (e : lkt B.slips k = some x) : lkt (issB B (nextC B who) s).slips k = some x := by
  show lkt (issS _ _ _ _ _) k = _
  rw [lkt_issS]
  split
  · rename_i q
    rw [h.nokey who q.1] at e; cases e
  · exact e
structure StepOk (B : LedV) (P W : Kid → Prop) (q : CR) : Prop where
  g : LedG q.b
  n : q.b.n = B.n
  bad : q.e ≠ 0 → q.b = B
  old : ∀ k s, lkt B.slips k = some s → ∃ s', lkt q.b.slips k = some s' ∧ SlipNext B.n s s' ∧ (¬ P k → s' = s)
  new : ∀ k s', lkt B.slips k = none → lkt q.b.slips k = some s' → W k ∧ ∃ l v, s' = slipNew k l v
theorem StepOk.same {B : LedV} (h : LedG B) {P W : Kid → Prop} {q : CR} (e : q.b = B) : StepOk B P W q :=
  ⟨by rw [e]; exact h, by rw [e], fun _ => e, fun k s hs => ⟨s, by rw [e]; exact hs, .refl (h.pl k s hs) (h.ok.st k s hs).2.2, fun _ => rfl⟩, fun k s' h1 h2 => by rw [e, h1] at h2; cases h2⟩
theorem StepOk.slips {B : LedV} (h : LedG B) {P W : Kid → Prop} {P' : Kid → Prop} {S : SlipsV} (hs : SlipsNext B.n P' B.slips S) (hp : ∀ k, P' k → P k) {q : CR} (e : q.b = B.setS S) (he : q.e = 0) : StepOk B P W q :=
  ⟨by rw [e]; exact h.next hs, by rw [e]; rfl, fun g => absurd he g, fun k s g => by
    obtain ⟨s', h1, h2, h3⟩ := hs.old k s g
    exact ⟨s', by rw [e]; exact h1, h2, fun g => h3 (fun x => g (hp k x))⟩, fun k s' h1 h2 => by
    rw [e] at h2
    have h2 : lkt S k = some s' := h2
    rw [hs.no k h1] at h2; cases h2⟩
theorem ceSell_ok {B : LedV} (h : LedG B) {P : Kid → Prop} {who : Int} (hw : 0 ≤ who ∧ who ≤ 255) {s : SaleV} (ok : SaleOk s) : StepOk B P (fun k => k.t.c = who) (ceSell B (cntC B.docs who) who s) := by
  unfold ceSell
  rcases Bool.eq_false_or_eq_true (decide (issLE (cntC B.docs who) B.n who s = 0)) with e | e <;> rw [e]
  · have i := iss_of (of_decide_eq_true e)
    refine ⟨h.issued hw ok i, rfl, fun g => absurd rfl g, fun k x hx => ⟨x, issued_old h hx, .refl (h.pl k x hx) (h.ok.st k x hx).2.2, fun _ => rfl⟩, fun k s' h1 h2 => ?_⟩
    have h2 : lkt (issS (nextC B who) s (shareV s.fare (wsOf s)) B.slips (shareV s.fare (wsOf s)).length) k = some s' := h2
    rw [lkt_issS] at h2
    split at h2
    · rename_i q
      cases h2
      exact ⟨by rw [q.1]; rfl, _, _, rfl⟩
    · rw [h1] at h2; cases h2
  · exact .same h rfl
theorem lkD_doc {B : LedV} {t : Tid} {d : DocV} (e : lkD B.docs t = some d) : d ∈ B.docs ∧ d.t = t := lkD_mem e
theorem turned_ok {B : LedV} (h : LedG B) {W : Kid → Prop} {t : Tid} {d d0 : DocV} (h0 : d0 ∈ B.docs) (e : SameDoc d d0) {x : Int} (hx : 5 ≤ x ∧ x ≤ 7) (m : Nat) {q : CR} (hq : q.b = (B.setD d).setS (cturnN B.slips t x m)) (he : q.e = 0) : StepOk B (fun k => k.t = t) W q := by
  have g := h.setD h0 e
  have hn := turn_next (n := B.n) h.fine h.ok.key h.knd t hx m
  have s1 : StepOk (B.setD d) (fun k => k.t = t) W q := .slips (P' := fun k => k.t = t) g (S := cturnN B.slips t x m) hn (fun _ => id) hq he
  exact ⟨s1.g, s1.n, fun g => absurd he g, s1.old, s1.new⟩
theorem ceVoid_ok {B : LedV} (h : LedG B) {W : Kid → Prop} {who : Int} {t : Tid} : StepOk B (fun k => k.t = t) W (ceVoid B who t) := by
  unfold ceVoid
  cases e : lkD B.docs t with
  | none => exact .same h rfl
  | some d =>
    show StepOk B _ W (bif t.c != who then failC 4 B else ceVoidD B t d)
    cases t.c != who
    · show StepOk B _ W (ceVoidD B t d)
      unfold ceVoidD
      cases (!cvoidN B.slips t (tid0B' d.frm) d.vals.length)
      · cases (!decide ((addI d.back d.paid).2 = 0))
        · exact turned_ok (x := 5) h (lkD_doc e).1 (d := cvoidD d) ⟨rfl, rfl, rfl⟩ (by decide) _ rfl rfl
        · exact .same h rfl
      · exact .same h rfl
    · exact .same h rfl
theorem ceRefund_ok {B : LedV} (h : LedG B) {W : Kid → Prop} {who : Int} {t : Tid} : StepOk B (fun k => k.t = t) W (ceRefund B who t) := by
  unfold ceRefund
  cases e : lkD B.docs t with
  | none => exact .same h rfl
  | some d =>
    show StepOk B _ W (bif t.c != who then failC 4 B else ceRefundD B t d (cgiftV B.slips d d.vals.length))
    cases t.c != who
    · show StepOk B _ W (ceRefundD B t d (cgiftV B.slips d d.vals.length))
      unfold ceRefundD
      cases cnone (cgiftV B.slips d d.vals.length) d
      · cases (!decide (crefE (cgiftV B.slips d d.vals.length) d = 0))
        · exact turned_ok (x := 6) h (lkD_doc e).1 (d := crefD (cgiftV B.slips d d.vals.length) d) ⟨rfl, rfl, rfl⟩ (by decide) _ rfl rfl
        · exact .same h rfl
      · exact .same h rfl
    · exact .same h rfl
theorem ceExchange_ok {B : LedV} (h : LedG B) {who : Int} (hw : 0 ≤ who ∧ who ≤ 255) {t : Tid} {s : SaleV} (ok : SaleOk s) : StepOk B (fun k => k.t = t) (fun k => k.t.c = who) (ceExchange B (cntC B.docs who) who t s) := by
  unfold ceExchange
  cases e : lkD B.docs t with
  | none => exact .same h rfl
  | some d =>
    show StepOk B _ _ (bif t.c != who then failC 4 B else ceExchangeD B (cntC B.docs who) who s d (cgiftV B.slips d d.vals.length))
    cases t.c != who
    · show StepOk B _ _ (ceExchangeD B (cntC B.docs who) who s d (cgiftV B.slips d d.vals.length))
      generalize cgiftV B.slips d d.vals.length = x
      obtain ⟨hd, ht⟩ := lkD_doc e
      unfold ceExchangeD
      cases cnone x d || !tid0B' d.dst
      · cases (!decide (cexE x d = 0))
        · rcases Bool.eq_false_or_eq_true (decide (issLE (cntC B.docs who) B.n who s = 0)) with e5 | e5 <;> rw [e5]
          · have i := iss_of (of_decide_eq_true e5)
            have g1 := h.issued hw ok i
            have hd1 : d ∈ (issB B (nextC B who) s).docs := List.mem_append_left _ hd
            have g2 := g1.setD hd1 (d := cexD1 x d (nextC B who)) ⟨rfl, rfl, rfl⟩
            have hn := turn_next (n := B.n) g1.fine g1.ok.key g1.knd d.t (x := 7) (by decide) d.vals.length
            have g3 := g2.next (S := cturnN (issB B (nextC B who) s).slips d.t 7 d.vals.length) hn
            have hne : nextC B who ≠ d.t := fun q => h.fresh who (by rw [q]; exact List.mem_map.2 ⟨d, hd, rfl⟩)
            have hd3 : docMade (nextC B who) s ∈ (((issB B (nextC B who) s).setD (cexD1 x d (nextC B who))).setS (cturnN (issB B (nextC B who) s).slips d.t 7 d.vals.length)).docs :=
              List.mem_map.2 ⟨docMade (nextC B who) s, List.mem_append_right _ (List.mem_singleton.2 rfl), if_neg hne⟩
            have g4 := g3.setD hd3 (d := cexD2 x d (nextC B who) s) ⟨rfl, rfl, rfl⟩
            refine ⟨g4, rfl, fun q => absurd rfl q, fun k y hy => ?_, fun k s' h1 h2 => ?_⟩
            · obtain ⟨s', q1, q2, q3⟩ := hn.old k y (issued_old h hy)
              exact ⟨s', q1, q2, fun q => q3 (fun r => q (by rw [← ht]; exact r))⟩
            · have h2 : lkt (cturnN (issB B (nextC B who) s).slips d.t 7 d.vals.length) k = some s' := h2
              rw [lkt_cturnN g1.ok.key] at h2
              have e0 : lkt (issB B (nextC B who) s).slips k = if k.t = nextC B who ∧ 0 ≤ k.i ∧ k.i < ((shareV s.fare (wsOf s)).length : Int) then some (slipNew k (s.legs.getD k.i.toNat leg0) ((shareV s.fare (wsOf s)).getD k.i.toNat 0)) else lkt B.slips k := lkt_issS (nextC B who) s (shareV s.fare (wsOf s)) B.slips k _
              rw [e0] at h2
              by_cases q : k.t = nextC B who ∧ 0 ≤ k.i ∧ k.i < ((shareV s.fare (wsOf s)).length : Int)
              · rw [if_pos q, if_neg (fun r => hne (by rw [← q.1]; exact r.1))] at h2
                cases h2
                exact ⟨by rw [q.1]; rfl, _, _, rfl⟩
              · rw [if_neg q, h1] at h2
                split at h2 <;> cases h2
          · exact .same h rfl
        · exact .same h rfl
      · exact .same h rfl
    · exact .same h rfl
theorem at_of' {s : SlipV} {c : Int} (h : s.at_ c = true) : s.p.way = false ∧ s.p.car = c := by
  unfold SlipV.at_ at h
  simp only [Bool.and_eq_true, Bool.not_eq_true', decide_eq_true_eq] at h
  exact h
theorem under_of {s : SlipV} {c n : Int} (h : s.under c n = true) : s.p.way = true ∧ s.p.car = c ∧ s.p.nonce = n := by
  unfold SlipV.under at h
  simp only [Bool.and_eq_true, decide_eq_true_eq] at h
  exact ⟨h.1, h.2.1, h.2.2⟩
theorem sAt_of {S : SlipsV} {k : Kid} (h : (lkt S k).isSome = true) : lkt S k = some (sAt S k) := by
  unfold sAt
  cases e : lkt S k with
  | none => rw [e] at h; cases h
  | some s => rfl
theorem ceGive_ok {B : LedV} (h : LedG B) {W : Kid → Prop} {who : Int} {c : CmdV} : StepOk B (fun k => k = c.k) W (ceGive B who c) := by
  unfold ceGive
  rcases Bool.eq_false_or_eq_true (lkt B.slips c.k).isSome with e1 | e1 <;> rw [e1]
  · cases decide (who = c.t.c)
    · rcases Bool.eq_false_or_eq_true ((sAt B.slips c.k).at_ who) with e3 | e3 <;> rw [e3]
      · rcases Bool.eq_false_or_eq_true (decide ((sAt B.slips c.k).p.st = 1)) with e4 | e4 <;> rw [e4]
        · have hs := sAt_of e1
          have p := h.pl _ _ hs
          have st := h.ok.st _ _ hs
          have ky := h.ok.key _ _ hs
          obtain ⟨a1, a2⟩ := at_of' e3
          have e4 := of_decide_eq_true e4
          obtain ⟨d, hd, d1, -⟩ := (h.keys c.k).1 e1
          have hc := h.car d hd
          have ht := h.ok.tid d hd
          have ec : d.t.c = c.t.c := by rw [d1]; rfl
          refine .slips (P' := fun k => k = c.k) h (S := putt B.slips c.k (giveS (sAt B.slips c.k) c.t.c)) (.put h.fine h.knd hs ⟨rfl, rfl, rfl, ⟨?_, p.st, p.paid, fun _ => e4⟩, ⟨Int.le_refl _, st.2.2⟩, id, fun _ => rfl, fun q => .inl q, fun _ => ⟨.inl ?_, e4, e4⟩⟩) (fun _ => id) rfl rfl
          · show 0 ≤ c.t.c ∧ c.t.c < B.n
            have := ht.1
            omega
          · show c.t.c = (sAt B.slips c.k).p.key.t.c
            rw [ky.1]; rfl
        · exact .same h rfl
      · exact .same h rfl
    · exact .same h rfl
  · exact .same h rfl
theorem next_cases {s c : Int} (hc : c = 9 ∨ c = 10 ∨ c = 11 ∨ c = 12) (h : (nextI s c).2 = 0) : (s = 1 ∧ (nextI s c).1 = 2) ∨ (s = 2 ∧ (nextI s c).1 = 1) ∨ (s = 2 ∧ (nextI s c).1 = 3) ∨ (s = 3 ∧ (nextI s c).1 = 4) := by
  unfold nextI at h ⊢
  cases g : isB s && cmdB c with
  | false => rw [g] at h; simp at h
  | true =>
    rw [g] at h
    simp only [if_true] at h ⊢
    have hs : s = 1 ∨ s = 2 ∨ s = 3 ∨ ¬ (s = 1 ∨ s = 2 ∨ s = 3) := by omega
    rcases hc with rfl | rfl | rfl | rfl <;> rcases hs with rfl | rfl | rfl | hs <;> first
      | (exfalso; revert h; decide)
      | (exact .inl ⟨rfl, by decide⟩)
      | (exact .inr (.inl ⟨rfl, by decide⟩))
      | (exact .inr (.inr (.inl ⟨rfl, by decide⟩)))
      | (exact .inr (.inr (.inr ⟨rfl, by decide⟩)))
      | (exfalso
         have : ∀ q, toI s q = none ∨ ¬ (q = 9 ∨ q = 10 ∨ q = 11 ∨ q = 12) := fun q => by
           by_cases r : q = 9 ∨ q = 10 ∨ q = 11 ∨ q = 12
           · left
             unfold toI
             rw [if_neg (by omega), if_neg (by omega), if_neg (by omega), if_neg (by omega), if_neg (by omega), if_neg (by omega), if_neg (by omega)]
           · exact .inr r
         first
           | (rcases this 9 with q | q
              · rw [q] at h; cases h
              · exact q (by decide))
           | (rcases this 10 with q | q
              · rw [q] at h; cases h
              · exact q (by decide))
           | (rcases this 11 with q | q
              · rw [q] at h; cases h
              · exact q (by decide))
           | (rcases this 12 with q | q
              · rw [q] at h; cases h
              · exact q (by decide)))
theorem ceUse_ok {B : LedV} (h : LedG B) {W : Kid → Prop} {who : Int} {c : CmdV} (hk : c.kind = 9 ∨ c.kind = 10 ∨ c.kind = 11 ∨ c.kind = 12) : StepOk B (fun k => k = c.k) W (ceUse B who c) := by
  unfold ceUse
  rcases Bool.eq_false_or_eq_true (lkt B.slips c.k).isSome with e1 | e1 <;> rw [e1]
  · rcases Bool.eq_false_or_eq_true ((sAt B.slips c.k).at_ who) with e3 | e3 <;> rw [e3]
    · cases ((sAt B.slips c.k).l.c != who)
      · rcases Bool.eq_false_or_eq_true (decide ((nextI (sAt B.slips c.k).p.st c.kind).2 = 0)) with e4 | e4 <;> rw [e4]
        · have hs := sAt_of e1
          have p := h.pl _ _ hs
          have st := h.ok.st _ _ hs
          obtain ⟨a1, a2⟩ := at_of' e3
          have nx := next_cases hk (of_decide_eq_true e4)
          generalize nextI (sAt B.slips c.k).p.st c.kind = y at nx ⊢
          have np : (sAt B.slips c.k).p.paid = false := by
            cases q : (sAt B.slips c.k).p.paid with
            | false => rfl
            | true => have := p.paid q; omega
          have rel : ∀ u v : Int, SlipNext B.n (sAt B.slips c.k) (useS (sAt B.slips c.k) y.1 (useP (sAt B.slips c.k) y.1 u v)) := fun u v => by
            refine ⟨rfl, rfl, rfl, ⟨p.car, ?_, fun q => ?_, fun q => ?_⟩, ⟨Int.le_refl _, st.2.2⟩, fun q => ?_, fun q => ?_, fun q => ?_, fun q => absurd rfl q⟩
            · show 1 ≤ y.1 ∧ y.1 ≤ 7; omega
            · have q : useP (sAt B.slips c.k) y.1 u v = true := q
              unfold useP at q
              rw [np] at q
              simp only [Bool.false_or, Bool.and_eq_true, decide_eq_true_eq] at q
              exact q.1
            · have q : (sAt B.slips c.k).p.way = true := q
              rw [a1] at q; cases q
            · rw [np] at q; cases q
            · omega
            · have q : y.1 = 4 := q
              omega
          exact .slips (P' := fun k => k = c.k) h (S := putt B.slips c.k (useS (sAt B.slips c.k) y.1 (useP (sAt B.slips c.k) y.1 who c.t.c))) (.put h.fine h.knd hs (rel who c.t.c)) (fun _ => id) rfl rfl
        · exact .same h rfl
      · exact .same h rfl
    · exact .same h rfl
  · exact .same h rfl
theorem pk_next {n : Int} {s : SlipV} (p : PlOk n s) (st : 0 ≤ s.p.nonce ∧ s.p.nonce ≤ 4294967295) {who src : Int} (hs : 0 ≤ src ∧ src < n) (hne : src ≠ who) {m : MsV} (hk : s.p.key = m.key) : SlipNext n s (pk s who src m) := by
  have id0 : SlipNext n s s := .refl p st.2
  have hw : s.free = true → s.p.nonce < 4294967295 → SlipNext n s (goS s src (s.p.nonce + 1)) := fun f g => by
    obtain ⟨f1, f2, f3⟩ := free_of f
    exact ⟨rfl, rfl, rfl, ⟨hs, p.st, p.paid, fun _ => f3⟩, ⟨by show s.p.nonce ≤ s.p.nonce + 1; omega, by show s.p.nonce + 1 ≤ _; omega⟩, id, fun _ => rfl, fun q => .inl q, fun _ => ⟨.inr rfl, f3, f3⟩⟩
  have hu : s.p.way = true → SlipNext n s (wayS s false) := fun f => ⟨rfl, rfl, rfl, ⟨p.car, p.st, p.paid, fun q => by cases q⟩, ⟨Int.le_refl _, st.2⟩, id, fun _ => rfl, fun q => .inl q, fun q => absurd rfl q⟩
  unfold pk
  split
  · unfold pkWant
    cases g : (decide (m.key.t.c = who) && (s.free && (decide (s.l.c = src) && decide (s.p.nonce < 4294967295)))) with
    | false => exact id0
    | true =>
      simp only [Bool.and_eq_true, decide_eq_true_eq] at g
      exact hw g.2.1 g.2.2.2
  split
  · unfold pkGrant
    cases g : (decide (m.key.t.c = src) && s.under who m.k.n) with
    | false => exact id0
    | true =>
      simp only [Bool.and_eq_true, decide_eq_true_eq] at g
      exact hu (under_of g.2).1
  split
  · unfold pkRet
    cases g : (decide (m.key.t.c = who) && s.under who m.k.n) with
    | false => exact id0
    | true =>
      simp only [Bool.and_eq_true, decide_eq_true_eq] at g
      exact hu (under_of g.2).1
  split
  · unfold pkRec
    cases g : (decide (m.key.t.c = src) && (s.at_ who && decide (s.p.st = 1))) with
    | false => exact id0
    | true =>
      simp only [Bool.and_eq_true, decide_eq_true_eq] at g
      obtain ⟨g1, g2, g3⟩ := g
      exact ⟨rfl, rfl, rfl, ⟨hs, p.st, p.paid, fun _ => g3⟩, ⟨Int.le_refl _, st.2⟩, id, fun _ => rfl, fun q => .inl q, fun _ => ⟨.inl (by show src = s.p.key.t.c; rw [hk, g1]), g3, g3⟩⟩
  split
  · unfold pkBill
    cases g : (decide (m.key.t.c = who) && (s.at_ src && (decide (s.p.st = 4) && (!s.p.paid && decide (s.v = m.amt))))) with
    | false => exact id0
    | true =>
      simp only [Bool.and_eq_true, decide_eq_true_eq] at g
      obtain ⟨g1, g2, g3, g4⟩ := g
      exact ⟨rfl, rfl, rfl, ⟨p.car, p.st, fun _ => g3, p.way⟩, ⟨Int.le_refl _, st.2⟩, fun _ => rfl, fun _ => rfl, fun q => .inl q, fun q => absurd rfl q⟩
  · exact id0
theorem pkS_next {B : LedV} (h : LedG B) {who src : Int} (hs : 0 ≤ src ∧ src < B.n) (hne : src ≠ who) (m : MsV) : SlipsNext B.n (fun k => k = m.key) B.slips (pkS B.slips who src m) := by
  unfold pkS
  rcases Bool.eq_false_or_eq_true (lkt B.slips m.key).isSome with e1 | e1 <;> rw [e1]
  · have e := sAt_of e1
    exact .put h.fine h.knd e (pk_next (h.pl _ _ e) (h.ok.st _ _ e).2 hs hne (h.ok.key _ _ e).1)
  · exact .refl h.fine h.knd
def wholeB (c : CmtV) : Bool := decide (c.kind = 1) && (decide (c.cmd.kind = 3) || (decide (c.cmd.kind = 4) || decide (c.cmd.kind = 5)))
def namedK (c : CmtV) : Kid := bif decide (c.kind = 2) then c.m.key else c.cmd.k
def mayP (c : CmtV) (k : Kid) : Prop := k = namedK c ∨ (wholeB c = true ∧ k.t = (namedK c).t)
def mayW (c : CmtV) (k : Kid) : Prop := c.kind = 1 ∧ k.t.c = c.car
structure CmtOk (c : CmtV) : Prop where
  car : 0 ≤ c.car ∧ c.car ≤ 255
  src : 0 ≤ c.src ∧ c.src ≤ 255
  sale : SaleOk c.cmd.s
theorem StepOk.mono {B : LedV} {P P' W W' : Kid → Prop} {q : CR} (h : StepOk B P W q) (hp : ∀ k, P k → P' k) (hw : ∀ k, W k → W' k) : StepOk B P' W' q :=
  ⟨h.g, h.n, h.bad, fun k s e => by
    obtain ⟨s', h1, h2, h3⟩ := h.old k s e
    exact ⟨s', h1, h2, fun g => h3 (fun x => g (hp k x))⟩, fun k s' e1 e2 => by
    obtain ⟨h1, h2⟩ := h.new k s' e1 e2
    exact ⟨hw k h1, h2⟩⟩
theorem ceStep_ok {B : LedV} (h : LedG B) {c : CmtV} (hc : CmtOk c) : StepOk B (mayP c) (mayW c) (ceStep B c) := by
  unfold ceStep
  cases g : stepBad B.n c with
  | true => exact .same h rfl
  | false =>
    unfold stepBad at g
    simp only [Bool.or_eq_false_iff, decide_eq_false_iff_not] at g
    obtain ⟨g1, g2, g3, g4⟩ := g
    simp only [cond_false]
    by_cases k2 : c.kind = 2
    · rw [if_pos k2]
      rw [decide_eq_true k2, Bool.true_and] at g4
      simp only [Bool.or_eq_false_iff, decide_eq_false_iff_not] at g4
      refine .slips (P' := fun k => k = c.m.key) h (S := pkS B.slips c.car c.src c.m) (pkS_next h ⟨hc.src.1, by omega⟩ g4.2 c.m) (fun k e => .inl ?_) rfl rfl
      unfold namedK
      rw [decide_eq_true k2]; exact e
    rw [if_neg k2]
    by_cases k3 : c.kind = 3
    · rw [if_pos k3]; exact .same h rfl
    rw [if_neg k3]
    have k1 : c.kind = 1 := by omega
    have nk : namedK c = c.cmd.k := by unfold namedK; rw [decide_eq_false k2]; rfl
    have wh : c.cmd.kind = 3 ∨ c.cmd.kind = 4 ∨ c.cmd.kind = 5 → ∀ k : Kid, k.t = c.cmd.t → mayP c k := fun q k e => .inr ⟨by
      unfold wholeB
      rw [decide_eq_true k1, Bool.true_and]
      simpa using q, by rw [nk]; exact e⟩
    have on : ∀ k : Kid, k = c.cmd.k → mayP c k := fun k e => .inl (by rw [nk]; exact e)
    have hW : ∀ k : Kid, k.t.c = c.car → mayW c k := fun k e => ⟨k1, e⟩
    unfold ceDo
    split
    · exact (ceSell_ok h (P := mayP c) hc.car hc.sale).mono (fun _ => id) hW
    split
    · exact .same h rfl
    split
    · rename_i e; exact (ceVoid_ok h).mono (wh (by omega)) fun _ => id
    split
    · rename_i e; exact (ceRefund_ok h).mono (wh (by omega)) fun _ => id
    split
    · rename_i e; exact (ceExchange_ok h hc.car hc.sale).mono (wh (by omega)) hW
    split
    · exact (ceGive_ok h).mono on fun _ => id
    split
    · rename_i e; exact (ceUse_ok h e).mono on fun _ => id
    split
    · exact .same h rfl
    · exact .same h rfl
theorem new_ok {n : Int} (h : ledE n = 0) : LedG (ledNew n) := by
  have h0 : ¬ (n < 2 ∨ 8 < n) := fun q => by
    unfold ledE at h
    rw [show (decide (n < 2) || decide (8 < n)) = true by simpa using q] at h
    cases h
  have nd : ∀ d ∈ (ledNew n).docs, False := fun d q => List.not_mem_nil q
  have ns : ∀ k s, lkt (ledNew n).slips k = some s → False := fun k s e => by have e : (none : Option SlipV) = some s := e; cases e
  refine { ok := { n := by show 2 ≤ n ∧ n ≤ 8; omega, key := fun k s e => (ns k s e).elim, v := fun k s e => (ns k s e).elim, st := fun k s e => (ns k s e).elim, sal := fun d q => (nd d q).elim, pr := fun d q => (nd d q).elim, vals := fun d q => (nd d q).elim, nodup := List.nodup_nil, tid := fun d q => (nd d q).elim }, cnt := fun c => Nat.zero_le _, ser := fun c r => ?_, car := fun d q => (nd d q).elim, vl := fun d q => (nd d q).elim, knd := List.nodup_nil, keys := fun k => ?_, pl := fun k s e => (ns k s e).elim }
  · show (⟨c, r⟩ : Tid) ∈ [] ↔ 1 ≤ r ∧ r ≤ ((0 : Nat) : Int)
    constructor
    · intro q; cases q
    · intro q; omega
  · constructor
    · intro q; cases q
    · rintro ⟨d, q, -⟩; cases q
end Go.Proofs.YtdnaegleifhmgaaGreat
