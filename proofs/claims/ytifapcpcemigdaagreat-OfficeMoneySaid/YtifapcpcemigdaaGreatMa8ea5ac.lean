/- Of8, Of9. -/
import Derived.Test.YtifapcpcemigdaaGreatMea8b4ea
import Derived.Test.YtifapcpcemigdaaGreatM305ace2
set_option maxRecDepth 100000
set_option linter.unusedVariables false
set_option linter.unusedSimpArgs false
set_option linter.unusedSectionVars false
section
namespace Go.Proofs.YtifapcpcemigdaaGreat
open Go.RowKit Go.Lib Go.Tk Go.Shelf Go.Vc Go.Sx
def OGood (B : BookV) : Prop := ∀ k o, lkt B.owns k = some o → InB o.k.s ∧ InB o.dst
structure BkG (B : BookV) : Prop where
  bi : BI B
  og : OGood B
  hs : HsOk B
  ol : B.owns.length ≤ 4 * B.docs.length
theorem OSt.v {y z : OwnV} (h : OSt y z) : z.k.v = y.k.v := by cases h <;> rfl
theorem OSt.good {y z : OwnV} (h : OSt y z) (g : InB y.k.s ∧ InB y.dst) : InB z.k.s ∧ InB z.dst := by
  cases h with
  | asked b => exact g
  | give c h1 h2 h3 => exact ⟨g.1, h3⟩
  | back h1 => exact g
  | use cmd h0 h1 h2 => exact ⟨next_in _ _, g.2⟩
  | pay h1 h2 => exact ⟨⟨by show (0 : Int) ≤ 4; decide, by show (4 : Int) ≤ 255; decide⟩, g.2⟩
theorem setO_len (B : BookV) (k : Kid) (o : OwnV) : (B.setO k o).owns.length = B.owns.length := by
  cases h : lkt B.owns k with
  | none => rw [setO_none h]
  | some x =>
    rw [setO_some h]
    show (putt B.owns k o).length = _
    rw [putt_len, h]; rfl
theorem Mv.good {B C : BookV} (h : Mv B C) (g : BkG B) : BkG C := by
  cases h with
  | refl => exact g
  | own k y z hk hs =>
    obtain ⟨e1, e2, e3, e4⟩ := setO_same B k z
    refine ⟨g.bi.setO (by have := g.bi.ex.own k y hk; unfold OwnOk at this ⊢; rw [hs.v]; exact this), fun k' o ho => ?_, by unfold HsOk; rw [e4]; exact g.hs, by rw [setO_len, e1]; exact g.ol⟩
    rw [setO_lk] at ho
    by_cases q : k = k'
    · rw [if_pos q, hk] at ho
      cases ho
      exact hs.good (g.og k y hk)
    · rw [if_neg q] at ho; exact g.og k' o ho
  | held k x hx =>
    obtain ⟨e1, e2, e3, e4⟩ := setH_same B k x
    refine ⟨g.bi.setH k x, by unfold OGood; rw [e4]; exact g.og, fun k' y hy => ?_, by rw [e4, e1]; exact g.ol⟩
    by_cases q : B.setHE k = 0
    · rw [setH_ok q] at hy
      have hy : lkt (putt B.helds k x) k' = some y := hy
      rw [lkt_put] at hy
      by_cases q' : k = k'
      · rw [if_pos q'] at hy; cases hy; exact hx g.hs
      · rw [if_neg q'] at hy; exact g.hs k' y hy
    · rw [setH_not q] at hy; exact g.hs k' y hy
theorem MvR.good {B : BookV} {q : HR} (h : MvR B q) (g : BkG B) : BkG q.b := by
  obtain ⟨D, h1, h2⟩ := h.mv
  exact h2.good (h1.good g)
structure SameK (B C : BookV) : Prop where
  self : C.self = B.self
  n : C.n = B.n
  len : C.owns.length = B.owns.length
theorem SameK.refl (B : BookV) : SameK B B := ⟨rfl, rfl, rfl⟩
theorem turn1_k (B : BookV) (k : Kid) (o : OwnV) (s : Int) : SameK B (turn1 B k o s) := by
  unfold turn1
  cases freeO o
  · exact .refl B
  · obtain ⟨e1, e2, e3, e4⟩ := setO_same B k (asO o s)
    exact ⟨e2, e3, setO_len B k _⟩
theorem turnL_k (s : Int) (t : Tid) : ∀ (l : List OwnV) (B : BookV) (i : Int), SameK B (turnL s t B i l)
  | [], B, _ => .refl B
  | o :: l, B, i => by
    have h1 := turn1_k B ⟨t, i⟩ o s
    have h2 := turnL_k s t l (turn1 B ⟨t, i⟩ o s) (i + 1)
    exact ⟨h2.self.trans h1.self, h2.n.trans h1.n, h2.len.trans h1.len⟩
theorem turnB_k (B : BookV) (t : Tid) (s : Int) : SameK B (turnB B t s) := turnL_k s t _ B 0
theorem OGood.turn {B : BookV} (g : OGood B) (t : Tid) {s : Int} (hs : InB s) : OGood (turnB B t s) := fun k o ho => by
  rcases turnB_lk B t s k with h | ⟨y, h1, h2⟩
  · rw [h] at ho; exact g k o ho
  · rw [h2] at ho
    cases ho
    have := g k y h1
    unfold turnO
    cases freeO y
    · exact this
    · exact ⟨hs, this.2⟩
theorem issO_len (t : Tid) (s : SaleV) (vs : List Int) (L : OwnsV) : ∀ n, (issO t s vs L n).length ≤ L.length + n
  | 0 => Nat.le_refl _
  | n + 1 => by
    have := issO_len t s vs L n
    show (putt (issO t s vs L n) ⟨t, (n : Int)⟩ (ownNew (s.legs.getD n leg0) (vs.getD n 0))).length ≤ _
    rw [putt_len]
    split <;> omega
theorem OGood.issued {B : BookV} (g : OGood B) (s : SaleV) : OGood (B.issued s) := fun k o ho => by
  have ho : lkt (issO B.nextT s (shareV s.fare (wsOf s)) B.owns (shareV s.fare (wsOf s)).length) k = some o := ho
  rcases issO_lk B.nextT s (shareV s.fare (wsOf s)) B.owns k (shareV s.fare (wsOf s)).length with ⟨j, hj, -, h⟩ | ⟨-, h⟩
  · rw [h] at ho
    cases ho
    exact ⟨⟨by show (0 : Int) ≤ 1; decide, by show (1 : Int) ≤ 255; decide⟩, by show (0 : Int) ≤ 0; decide, by show (0 : Int) ≤ 255; decide⟩
  · rw [h] at ho; exact g k o ho
def actO (c : CmdO) : Act17 := ⟨c.kind - 1, c.t, c.s, ⟨none, 0, none, 0⟩⟩
theorem ticQ_eq (B : BookV) (c : CmdO) : ticQ B c = doX B (actO c) := by
  unfold ticQ doX actO
  by_cases g0 : c.kind = 1
  · rw [if_pos g0, if_pos (show c.kind - 1 = 0 by omega)]
  rw [if_neg g0, if_neg (show ¬ c.kind - 1 = 0 by omega)]
  by_cases g1 : c.kind = 2
  · rw [if_pos g1, if_pos (show c.kind - 1 = 1 by omega)]
  rw [if_neg g1, if_neg (show ¬ c.kind - 1 = 1 by omega)]
  by_cases g2 : c.kind = 3
  · rw [if_pos g2, if_pos (show c.kind - 1 = 2 by omega)]
  rw [if_neg g2, if_neg (show ¬ c.kind - 1 = 2 by omega)]
  by_cases g3 : c.kind = 4
  · rw [if_pos g3, if_pos (show c.kind - 1 = 3 by omega)]
  rw [if_neg g3, if_neg (show ¬ c.kind - 1 = 3 by omega)]
structure TicG (B C : BookV) : Prop where
  self : C.self = B.self
  n : C.n = B.n
  og : OGood C
  ol : C.owns.length ≤ 4 * C.docs.length
theorem issued_ol {B : BookV} {s : SaleV} (ok : SaleOk s) (hm : B.issE s = 0) (h : B.owns.length ≤ 4 * B.docs.length) : (B.issued s).owns.length ≤ 4 * (B.docs.length + 1) := by
  have := issO_len B.nextT s (shareV s.fare (wsOf s)) B.owns (shareV s.fare (wsOf s)).length
  have := (made_i ok hm).vl
  show (issO B.nextT s (shareV s.fare (wsOf s)) B.owns (shareV s.fare (wsOf s)).length).length ≤ _
  omega
theorem in7 {s : Int} (h : 1 ≤ s ∧ s ≤ 7) : InB s := ⟨by omega, by omega⟩
theorem doX_g {B : BookV} (g : BkG B) {x : Act17} (ok : SaleOk x.s) : TicG B (doX B x).b := by
  unfold doX
  have no : ∀ e, TicG B (failX e B).b := fun e => ⟨rfl, rfl, g.og, g.ol⟩
  have look : ∀ t a, TicG B (toldX B t a).b := fun t a => ⟨rfl, rfl, g.og, g.ol⟩
  have turn : ∀ (d' : DocV) (t : Tid) (s a : Int), 1 ≤ s ∧ s ≤ 7 → TicG B (toldX (turnB (B.setD d') t s) t a).b := fun d' t s a hs => by
    have k := turnB_k (B.setD d') t s
    refine ⟨k.self, k.n, OGood.turn (B := B.setD d') g.og t (in7 hs), ?_⟩
    show (turnB (B.setD d') t s).owns.length ≤ 4 * (turnB (B.setD d') t s).docs.length
    rw [k.len, turnB_docsD, putD_length]
    exact g.ol
  by_cases g0 : x.d = 0
  · rw [if_pos g0]
    unfold exIssue
    rcases Bool.eq_false_or_eq_true (decide (B.issE x.s = 0)) with e | e <;> rw [e]
    · refine ⟨rfl, rfl, g.og.issued x.s, ?_⟩
      have := issued_ol ok (of_decide_eq_true e) g.ol
      show (B.issued x.s).owns.length ≤ 4 * (B.docs ++ [docMade B.nextT x.s]).length
      rw [List.length_append]; exact this
    · exact no _
  rw [if_neg g0]
  by_cases g1 : x.d = 1
  · rw [if_pos g1]
    unfold exDisplay
    cases lkD B.docs x.t with
    | none => exact no 4
    | some d => exact look _ _
  rw [if_neg g1]
  by_cases g2 : x.d = 2
  · rw [if_pos g2]
    unfold exVoid
    cases lkD B.docs x.t with
    | none => exact no 4
    | some d =>
      show TicG B (exVoidD B x.t d).b
      unfold exVoidD
      rcases Bool.eq_false_or_eq_true (voidL (tid0B d.frm) (coupL B x.t)) with e1 | e1 <;> rw [e1]
      · rcases Bool.eq_false_or_eq_true (decide ((addI d.back d.paid).2 = 0)) with e2 | e2 <;> rw [e2]
        · exact turn (voidD d) x.t 5 _ (by decide)
        · exact no _
      · exact no 6
  rw [if_neg g2]
  by_cases g3 : x.d = 3
  · rw [if_pos g3]
    unfold exRefund
    cases lkD B.docs x.t with
    | none => exact no 4
    | some d =>
      show TicG B (exRefundD B x.t d).b
      unfold exRefundD
      cases noneB B d
      · rcases Bool.eq_false_or_eq_true (decide (refE B d = 0)) with e2 | e2 <;> rw [e2]
        · exact turn (refD B d) x.t 6 _ (by decide)
        · exact no _
      · exact no 6
  rw [if_neg g3]
  unfold exExchange
  cases lkD B.docs x.t with
  | none => exact no 4
  | some d =>
    show TicG B (exExchangeD B d x.s).b
    unfold exExchangeD
    rcases Bool.eq_false_or_eq_true (noneB B d || !tid0B d.dst) with e1 | e1 <;> rw [e1]
    · exact no 6
    rcases Bool.eq_false_or_eq_true (decide (exE B d = 0)) with e2 | e2 <;> rw [e2]
    · rcases Bool.eq_false_or_eq_true (decide (B.issE x.s = 0)) with e3 | e3 <;> rw [e3]
      · have k := turnB_k ((B.issued x.s).setD (exD1 B d x.s)) d.t 7
        refine ⟨k.self, k.n, OGood.turn (B := (B.issued x.s).setD (exD1 B d x.s)) (g.og.issued x.s) d.t (in7 (by decide)), ?_⟩
        have hl := issued_ol ok (of_decide_eq_true e3) g.ol
        show (turnB ((B.issued x.s).setD (exD1 B d x.s)) d.t 7).owns.length ≤ 4 * (putD (exB2 B d x.s).docs (exD2 B d x.s)).length
        rw [k.len, putD_length]
        unfold exB2
        rw [turnB_docsD, putD_length]
        show (B.issued x.s).owns.length ≤ 4 * (B.docs ++ [docMade B.nextT x.s]).length
        rw [List.length_append]; exact hl
      · exact no _
    · exact no _
theorem tic_g {B : BookV} (g : BkG B) {c : CmdO} (ok : SaleOk c.s) : BkG (ticQ B c).b := by
  rw [ticQ_eq]
  have h := doX_g g (x := actO c) ok
  have hh := doX_helds B (actO c)
  refine ⟨⟨doX_ok g.bi.ex ok, ?_, by rw [hh]; exact g.bi.hl⟩, h.og, by unfold HsOk; rw [hh]; exact g.hs, h.ol⟩
  rw [hh]
  exact fun k x hx => by rw [badK_same h.self h.n]; exact g.bi.hk k x hx
end Go.Proofs.YtifapcpcemigdaaGreat
end
section
namespace Go.Proofs.YtifapcpcemigdaaGreat
open Go.RowKit Go.Lib Go.Tk Go.Shelf Go.Vc Go.Sx
structure PoG (P : PostV) (n : Nat) : Prop where
  ok : PostOk P
  gv : ∀ c, (P.box c).given ≤ n
structure OI (O : OffV) (n : Nat) : Prop where
  bk : BkG O.b
  po : PoG O.p n
theorem PoG.mono {P : PostV} {n m : Nat} (h : PoG P n) (hm : n ≤ m) : PoG P m := ⟨h.ok, fun c => by have := h.gv c; omega⟩
theorem PoG.put {P : PostV} {n : Nat} (h : PoG P n) {c : Nat} {X : BoxV} (hx : BoxOk X) (hg : X.given ≤ n) : PoG (P.put c X) n :=
  ⟨put_ok h.ok hx, fun i => by
    show (if i = c then X else P.box i).given ≤ n
    split
    · exact hg
    · exact h.gv i⟩
theorem push_g {P : PostV} {n : Nat} (h : PoG P n) (hn : n < 4294967296) (x : OutV) : PoG (pushQ P x).2 (n + 1) := by
  unfold pushQ doP
  have hX := h.ok.box x.dst.toNat
  have hg := h.gv x.dst.toNat
  split
  · refine (h.mono (Nat.le_succ n)).put (pushX_ok hX (by omega)) ?_
    unfold pushX
    dsimp only
    split
    · show (P.box x.dst.toNat).given ≤ _; omega
    · show (P.box x.dst.toNat).given + 1 ≤ _; omega
  · exact h.mono (Nat.le_succ n)
theorem took_g {P : PostV} {n : Nat} (h : PoG P n) {r : RecO} (hr : RecOk r) : PoG (tookQ P r).2 n := by
  unfold tookQ doP
  split
  · refine h.put (tookX_ok (h.ok.box _) hr.num.1 hr.num.2) ?_
    unfold tookX
    dsimp only
    split <;> exact h.gv _
  · exact h
theorem ack_g {O : OffV} {n : Nat} (h : PoG O.p n) (r : RecO) : PoG (ackQ O r).2.p n := by
  show PoG (doP (fun X => ackX X r.num) O.p r.src).2 n
  unfold doP
  split
  · refine h.put (ackX_ok (h.ok.box _)) ?_
    unfold ackX
    dsimp only
    split
    · exact h.gv _
    · split <;> exact h.gv _
  · exact h
theorem out_g {P : PostV} {n : Nat} (h : PoG P n) (hn : n < 4294967296) (may : PostV → OutV → Bool) : ∀ l, PoG (outQ may P l).2 (n + 1)
  | [] => h.mono (Nat.le_succ n)
  | x :: _ => by
    show PoG (bif may P x then pushQ P x else (3, P)).2 (n + 1)
    cases may P x
    · exact h.mono (Nat.le_succ n)
    · exact push_g h hn x
theorem PoG.out {P : PostV} {n : Nat} (h : PoG P n) (hn : n < 4294967296) {x : OutV} (hx : InB x.dst) : OutOk P x := ⟨hx, fun _ => by have := h.gv x.dst.toNat; omega⟩
theorem OI.off {O : OffV} {n : Nat} (h : OI O n) : OffOk O := ⟨h.bk.bi.ex.cl, h.bk.bi.ex.bk.nodup, h.po.ok⟩
theorem OI.lens {O : OffV} {n : Nat} (h : OI O n) : O.b.owns.length ≤ 1000 ∧ O.b.helds.length ≤ 1000 := by
  have := h.bk.ol; have := h.bk.bi.ex.bk.many; have := h.bk.bi.hl; omega
structure RecG (r : RecO) : Prop where
  ok : RecOk r
  ms : InB r.m.k.s
  kind : 0 ≤ r.cmd.kind ∧ r.cmd.kind ≤ 255
  t : TidOk r.cmd.t
  i : 0 ≤ r.cmd.i ∧ r.cmd.i ≤ 255
  sal : SaleOk r.cmd.s
structure RecRd (F : CF) (r : RecO) (S : SaleA) : Prop where
  ok : RecOk r
  ms : InB r.m.k.s
  cmd : CmdRd F r.cmd S
theorem RecRd.g {F : CF} {r : RecO} {S : SaleA} (h : RecRd F r S) : RecG r := ⟨h.ok, h.ms, h.cmd.kind, h.cmd.t, h.cmd.i, h.cmd.ok⟩
theorem CmdRd.kid {F : CF} {c : CmdO} {S : SaleA} (h : CmdRd F c S) : KidOk c.k := ⟨h.t, h.i⟩
theorem coup_c {F : CF} {B : BookV} (g : BkG B) {c : CmdO} {S : SaleA} (h : CmdRd F c S) (hk : 6 ≤ c.kind ∧ c.kind ≤ 13) : CoupK (coF c.kind) (coFr c.kind) (coRd c.kind) B c.k c S (coupQ B c) := by
  have kd := h.kid
  have hc := h.kind
  have hs := fun o ho => (g.og c.k o ho).1
  have hh := g.hs c.k
  obtain ⟨kind, t, i, s, amt⟩ := c
  have hk : 6 ≤ kind ∧ kind ≤ 13 := hk
  rcases (show kind = 6 ∨ kind = 7 ∨ kind = 8 ∨ kind = 9 ∨ kind = 10 ∨ kind = 11 ∨ kind = 12 ∨ kind = 13 by omega) with rfl | rfl | rfl | rfl | rfl | rfl | rfl | rfl
  · exact do21_want B kd ⟨6, t, i, s, amt⟩ S
  · exact do21_return B kd ⟨7, t, i, s, amt⟩ S
  · exact do21_recall B kd ⟨8, t, i, s, amt⟩ S
  · exact do1_w B kd (c := ⟨9, t, i, s, amt⟩) S hc hs hh
  · exact do1_w B kd (c := ⟨10, t, i, s, amt⟩) S hc hs hh
  · exact do1_w B kd (c := ⟨11, t, i, s, amt⟩) S hc hs hh
  · exact do1_w B kd (c := ⟨12, t, i, s, amt⟩) S hc hs hh
  · exact do6_w B kd ⟨13, t, i, s, amt⟩ S
theorem tic_c {F : CF} {B : BookV} (g : BkG B) {c : CmdO} {S : SaleA} (h : CmdRd F c S) (hk : 1 ≤ c.kind ∧ c.kind ≤ 5) : TicK (tiF c.kind) (tiFr c.kind) (tiRd F c.kind) B c S (ticQ B c) := by
  have ht := h.t
  have hh := h
  obtain ⟨kind, t, i, s, amt⟩ := c
  have hk : 1 ≤ kind ∧ kind ≤ 5 := hk
  rcases (show kind = 1 ∨ kind = 2 ∨ kind = 3 ∨ kind = 4 ∨ kind = 5 by omega) with rfl | rfl | rfl | rfl | rfl
  · exact do4_w F g.bi.ex hh
  · exact do31_display (c := ⟨2, t, i, s, amt⟩) g.bi.ex S ht
  · exact do31_void (c := ⟨3, t, i, s, amt⟩) g.bi.ex S ht
  · exact do31_refund (c := ⟨4, t, i, s, amt⟩) g.bi.ex S ht
  · exact do5_w F g.bi.ex hh
theorem com_w {F : CF} {O : OffV} {n : Nat} (h : OI O n) (hn : n < 4294967296) {c : CmdO} {S : SaleA} (hc : CmdRd F c S) : ComK F O O.b c S (cmdQ O c O.b) := by
  unfold cmdQ
  by_cases g : c.kind < 1 ∨ 13 < c.kind
  · rw [if_pos g]; exact com_bad F O S hc.kind g
  rw [if_neg g]
  by_cases g2 : c.kind ≤ 5
  · rw [if_pos g2]; exact com_tic F O S (by omega) (tic_c h.bk hc (by omega))
  rw [if_neg g2]
  have m := coup_mv (B := O.b) (c := c) hc.t.1
  exact com_coup F O S (by omega) (coup_c h.bk hc (by omega)) m.one h.lens.1 h.lens.2 fun x hx => h.po.out hn (m.dst (fun k o ho => (h.bk.og k o ho).2) x hx)
theorem hearO_m {O : OffV} {n : Nat} (h : OI O n) {r : RecO} (hr : RecG r) : MvR O.b (hearO O.b r.src r.m) := hearO_mv hr.ok.src hr.ms hr.ok.key.1.1
theorem try_w {F : CF} {O : OffV} {n : Nat} (h : OI O n) (hn : n < 4294967296) {r : RecO} {S : SaleA} (hr : RecRd F r S) : TryK F O r S (tryQ O r) := by
  have c0 := com_w h hn hr.cmd
  have m := hearO_m h hr.g
  have c1 := pack_w O S hr.ok m.one fun x hx => (took_g h.po hr.ok).out hn (m.dst (fun k o ho => (h.bk.og k o ho).2) x hx)
  have hs := hr.ok.src
  have hm := hr.ok.num
  unfold tryQ
  by_cases g1 : r.kind = 1
  · rw [if_pos g1]
    obtain ⟨kind, c, src, num, m⟩ := r
    have g1 : kind = 1 := g1
    subst g1
    exact try_1 F h.off S cmd_cd c0
  rw [if_neg g1]
  by_cases g2 : r.kind = 2
  · rw [if_pos g2]
    obtain ⟨kind, c, src, num, m⟩ := r
    have g2 : kind = 2 := g2
    subst g2
    exact try_2 F h.off S c1
  rw [if_neg g2]
  by_cases g3 : r.kind = 3
  · rw [if_pos g3]
    obtain ⟨kind, c, src, num, m⟩ := r
    have g3 : kind = 3 := g3
    subst g3
    exact try_3 F h.off S hs hm
  rw [if_neg g3]
  exact try_0 F h.off S g1 g2 g3
theorem com_oi {O : OffV} {n : Nat} (h : OI O n) (hn : n < 4294967296) {c : CmdO} (hc : InB c.t.c) (ok : SaleOk c.s) : OI (cmdQ O c O.b).o (n + 1) := by
  have up : PoG O.p (n + 1) := h.po.mono (Nat.le_succ n)
  unfold cmdQ
  split
  · exact ⟨h.bk, up⟩
  split
  · exact ⟨tic_g h.bk ok, up⟩
  have m := (coup_mv (B := O.b) (c := c) hc).good h.bk
  unfold cmdCQ
  cases decide ((coupQ O.b c).e = 0)
  · exact ⟨m, up⟩
  · exact ⟨m, out_g h.po hn _ _⟩
theorem pack_oi {O : OffV} {n : Nat} (h : OI O n) (hn : n < 4294967296) {r : RecO} (hr : RecG r) : OI (packQ O r).2 (n + 1) := by
  have up := (took_g h.po hr.ok).mono (Nat.le_succ n)
  have m := (hearO_m h hr).good h.bk
  unfold packQ
  cases decide (r.src = O.b.self) || decide (O.b.n ≤ r.src)
  · cases decide ((tookQ O.p r).1 = 0)
    · exact ⟨h.bk, up⟩
    · show OI (packHQ (tookQ O.p r).2 (hearO O.b r.src r.m)).2 (n + 1)
      unfold packHQ
      cases decide ((hearO O.b r.src r.m).e = 0)
      · exact ⟨m, up⟩
      · exact ⟨m, out_g (took_g h.po hr.ok) hn _ _⟩
  · exact ⟨h.bk, h.po.mono (Nat.le_succ n)⟩
theorem try_oi {O : OffV} {n : Nat} (h : OI O n) (hn : n < 4294967296) {r : RecO} (hr : RecG r) : OI (tryQ O r).o (n + 1) := by
  unfold tryQ
  split
  · exact com_oi h hn hr.t.1 hr.sal
  split
  · exact pack_oi h hn hr
  split
  · exact ⟨h.bk, (ack_g h.po r).mono (Nat.le_succ n)⟩
  · exact ⟨h.bk, h.po.mono (Nat.le_succ n)⟩
theorem step_oi {O : OffV} {n : Nat} (h : OI O n) (hn : n < 4294967296) {r : RecO} (hr : RecG r) : OI (stepO O r) (n + 1) := by
  unfold stepO
  cases decide ((tryQ O r).e = 0)
  · exact ⟨h.bk, h.po.mono (Nat.le_succ n)⟩
  · exact try_oi h hn hr
theorem new_oi {self n : Int} (hs : 0 ≤ self ∧ self ≤ 255) (h : bookE self n = 0) : OI (offNew self n) 0 := by
  have hb := bookE_ok hs.1 h
  exact ⟨⟨new_bi self n hb, fun k o e => (by cases e), fun k o e => (by cases e), Nat.zero_le _⟩, ⟨⟨hb.2.2.1, hb.2.2.2, hb.1, hb.2.1, fun c => ⟨Nat.zero_le _, Int.le_refl _, by show (0 : Int) ≤ _; decide, Int.le_refl _, by show (0 : Int) ≤ _; decide⟩⟩, fun c => Int.le_refl _⟩⟩
end Go.Proofs.YtifapcpcemigdaaGreat
end
