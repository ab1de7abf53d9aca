/- Rf14, Coup4, Rf15, Rf16, StP, BiP1, BiP2, BsP, RlP. -/
import Derived.Test.YtmhbpifhpolghaaGreatMb58f80e
import Derived.BigRegion
import Derived.Deep.LoopGhost
set_option maxRecDepth 100000
set_option linter.unusedVariables false
set_option linter.unusedSimpArgs false
set_option linter.unusedSectionVars false
section
namespace Go.Proofs.YtmhbpifhpolghaaGreat
open Go.RowKit Go.Lib Go.Tk Go.Shelf Go.Vc Go.Sx
def RefV.issue (R : RefV) (s : SaleV) (A : SaleA) : RefV := bif decide (R.issE s = 0) then R.issued s A else R
def RefV.setO (R : RefV) (k : Kid) (o : OwnV) : RefV := bif decide (0 ≤ rIx R.owns k) then { R with owns := R.owns.set (rIx R.owns k).toNat (k, o) } else R
def stepR (R : RefV) (x : Act15) : RefV := if x.d = 0 then R.issue x.s x.A else if x.d = 2 then R.setO x.k x.o else if x.d = 3 then R.setH x.k x.h else R
structure RI (R : RefV) : Prop where
  hs : 0 ≤ R.self ∧ R.self ≤ 255
  hd : R.docs.length ≤ 32
  ho : R.owns.length ≤ 4 * R.docs.length
  hh : R.helds.length ≤ 64
theorem RefV.issE_ok {R : RefV} {s : SaleV} (ok : SaleOk s) (h : R.issE s = 0) : R.docs.length < 32 ∧ (shareV s.fare (wsOf s)).length = s.legs.length ∧ 1 ≤ s.legs.length ∧ s.legs.length ≤ 4 := by
  have g1 : decide ((32 : Int) ≤ (R.docs.length : Int)) = false := by
    cases h1 : decide ((32 : Int) ≤ (R.docs.length : Int)) with
    | false => rfl
    | true => unfold RefV.issE at h; rw [h1] at h; cases h
  have hm : makeE R.self ((R.docs.length : Int) + 1) s R.n = 0 := by unfold RefV.issE at h; rw [g1] at h; exact h
  have hck : checkE s R.n = 0 := by
    unfold makeE at hm
    split at hm
    · cases hm
    · exact hm
  obtain ⟨-, -, hsh, -⟩ := check_shape hck
  obtain ⟨hS, -, l1, l4, -, -⟩ := shape_share ok hsh
  exact ⟨by have := of_decide_eq_false g1; omega, by rw [shareV_len hS, ws_len], by omega, by omega⟩
theorem RI.issue {R : RefV} (h : RI R) {s : SaleV} (ok : SaleOk s) (A : SaleA) : RI (R.issue s A) := by
  unfold RefV.issue
  rcases Bool.eq_false_or_eq_true (decide (R.issE s = 0)) with e | e <;> rw [e]
  · obtain ⟨h1, h2, h3, h4⟩ := R.issE_ok ok (of_decide_eq_true e)
    have e1 : (R.docs ++ [(docMade R.nextT s, A)]).length = R.docs.length + 1 := by rw [List.length_append]; rfl
    refine ⟨h.hs, ?_, ?_, h.hh⟩
    · show (R.docs ++ [(docMade R.nextT s, A)]).length ≤ 32
      rw [e1]; omega
    · show (issR _ _ _ _ _).length ≤ 4 * (R.docs ++ [(docMade R.nextT s, A)]).length
      rw [issR_len, e1, h2]
      have := h.ho
      omega
  · exact h
theorem RI.setO {R : RefV} (h : RI R) (k : Kid) (o : OwnV) : RI (R.setO k o) := by
  unfold RefV.setO
  cases decide (0 ≤ rIx R.owns k)
  · exact h
  · exact ⟨h.hs, h.hd, by show (R.owns.set _ _).length ≤ _; rw [List.length_set]; exact h.ho, h.hh⟩
theorem insH_len (l : List (Kid × HeldV)) (k : Kid) (x : HeldV) : (insH l k x).length = l.length + 1 := by
  have := insIx_le l k
  unfold insH
  rw [List.length_append, List.length_append, List.length_take, List.length_drop, List.length_singleton]
  omega
theorem RI.setH {R : RefV} (h : RI R) (k : Kid) (x : HeldV) : RI (R.setH k x) := by
  unfold RefV.setH
  cases R.badK k
  · cases decide (0 ≤ rIx R.helds k)
    · rcases Bool.eq_false_or_eq_true (decide ((64 : Int) ≤ (R.helds.length : Int))) with g | g <;> rw [g]
      · exact h
      · exact ⟨h.hs, h.hd, h.ho, by show (insH _ _ _).length ≤ _; rw [insH_len]; have := of_decide_eq_false g; omega⟩
    · exact ⟨h.hs, h.hd, h.ho, by show (R.helds.set _ _).length ≤ _; rw [List.length_set]; exact h.hh⟩
  · exact h
theorem RI.step {R : RefV} (h : RI R) {x : Act15} (ok : SaleOk x.s) : RI (stepR R x) := by
  unfold stepR
  split
  · exact h.issue ok _
  split
  · exact h.setO _ _
  split
  · exact h.setH _ _
  exact h
end Go.Proofs.YtmhbpifhpolghaaGreat
end
section
namespace Go.Proofs.YtmhbpifhpolghaaGreat
open Go.RowKit Go.Lib Go.Tk Go.Maps
end Go.Proofs.YtmhbpifhpolghaaGreat
end
section
namespace Go.Sx
open Go.RowKit Go.Lib Go.Tk Go.Shelf Go.Vc
end Go.Sx
namespace Go.Proofs.YtmhbpifhpolghaaGreat
open Go.RowKit Go.Lib Go.Tk Go.Shelf Go.Vc Go.Sx
theorem oidx (l : List (Kid × OwnV)) {i : Nat} (h : i < l.length) : OpG Tryz.prog (isIdx 64) idxXY [.any 0 0, .val (.int .i64 (i : Int))] [((0, 0), .fam (qF 71 13 mineC l))] [] (.elt 0 0 0 (i * 13) 0) [] :=
  q_idx l (fun _ => rfl) (by decide) (by kernel_rfl) h
theorem oload (l : List (Kid × OwnV)) {i : Nat} {x : Kid × OwnV} (h : l[i]? = some x) {t j : Nat} {u : SV} (hu : Go.Sx.partAt Tryz.prog t (mineS x) j = some u) : OpG Tryz.prog (isLoad t) loadX [.elt 0 0 0 (i * 13) j] [((0, 0), .fam (qF 71 13 mineC l))] [] u [] :=
  q_load l hu (cells_nth (enc := mineC) (encS := mineS) (fun _ _ => rfl) (fun _ => rfl) h)
theorem hidx (l : List (Kid × HeldV)) {i : Nat} (h : i < l.length) : OpG Tryz.prog (isIdx 65) idxXY [.any 0 0, .val (.int .i64 (i : Int))] [((0, 0), .fam (qF 124 13 otherC l))] [] (.elt 0 0 0 (i * 13) 0) [] :=
  q_idx l (fun _ => rfl) (by decide) (by kernel_rfl) h
theorem hload (l : List (Kid × HeldV)) {i : Nat} {x : Kid × HeldV} (h : l[i]? = some x) {t j : Nat} {u : SV} (hu : Go.Sx.partAt Tryz.prog t (otherS x) j = some u) : OpG Tryz.prog (isLoad t) loadX [.elt 0 0 0 (i * 13) j] [((0, 0), .fam (qF 124 13 otherC l))] [] u [] :=
  q_load l hu (cells_nth (enc := otherC) (encS := otherS) (fun _ _ => rfl) (fun _ => rfl) h)
theorem rIx_lkt {α : Type} (l : List (Kid × α)) (k : Kid) : (rIx l k = -1 ∧ lkt l k = none) ∨ ∃ (i : Nat) (z : α), rIx l k = (i : Int) ∧ l[i]? = some (k, z) ∧ lkt l k = some z := by
  rcases rIx_cases l k with ⟨h1, h2⟩ | ⟨i, z, h1, h2, h3⟩
  · exact .inl ⟨h1, lkt_none.2 fun h => by obtain ⟨p, hp, e⟩ := List.mem_map.1 h; exact h2 p hp e⟩
  · refine .inr ⟨i, z, h1, h2, ?_⟩
    clear h1
    induction l generalizing i with
    | nil => cases h2
    | cons p l ih =>
      unfold lkt
      cases i with
      | zero => cases h2; rw [if_pos rfl]
      | succ i =>
        rw [if_neg (h3 0 p (Nat.succ_pos i) rfl)]
        exact ih i h2 fun j q hj hq => h3 (j + 1) q (Nat.succ_lt_succ hj) hq
theorem lkt_set {α : Type} {l : List (Kid × α)} {i : Nat} {k : Kid} {z : α} (h : l[i]? = some (k, z)) (hf : ∀ (j : Nat) (p : Kid × α), j < i → l[j]? = some p → p.1 ≠ k) (z' : α) (k' : Kid) : lkt (l.set i (k, z')) k' = if k = k' then some z' else lkt l k' := by
  induction l generalizing i with
  | nil => cases h
  | cons p l ih =>
    cases i with
    | zero =>
      cases h
      show (if k = k' then some z' else lkt l k') = if k = k' then some z' else (if k = k' then some z else lkt l k')
      by_cases q : k = k'
      · simp [q]
      · simp [q]
    | succ i =>
      have ih := ih (i := i) h fun j q hj hq => hf (j + 1) q (Nat.succ_lt_succ hj) hq
      have h0 := hf 0 p (Nat.succ_pos i) rfl
      show (if p.1 = k' then some p.2 else lkt (l.set i (k, z')) k') = if k = k' then some z' else (if p.1 = k' then some p.2 else lkt l k')
      rw [ih]
      by_cases q : k = k'
      · subst q; simp [h0]
      · simp [q]
def RefV.stO (R : RefV) (k : Kid) (o : OwnV) : RefV := { R with owns := R.owns.set (rIx R.owns k).toNat (k, o) }
def RefV.stH (R : RefV) (k : Kid) (h : HeldV) : RefV := { R with helds := R.helds.set (rIx R.helds k).toNat (k, h) }
theorem stO_at {R : RefV} {k : Kid} {i : Nat} (h : rIx R.owns k = (i : Int)) (o : OwnV) : R.stO k o = { R with owns := R.owns.set i (k, o) } := by unfold RefV.stO; rw [h]; rfl
theorem stH_at {R : RefV} {k : Kid} {i : Nat} (h : rIx R.helds k = (i : Int)) (o : HeldV) : R.stH k o = { R with helds := R.helds.set i (k, o) } := by unfold RefV.stH; rw [h]; rfl
def NonceI (n : Int) : Prop := 0 ≤ n ∧ n ≤ 4294967295
structure Stay (y z : OwnV) : Prop where
  s : z.k.s = y.k.s
  v : z.k.v = y.k.v
  l : z.k.l = y.k.l
  paid : z.paid = y.paid
  n : NonceI y.k.n → y.k.n ≤ z.k.n ∧ NonceI z.k.n
inductive Hop : BookV → BookV → Prop
  | refl (B) : Hop B B
  | own (B k y z) : lkt B.owns k = some y → Stay y z → Hop B (B.setO k z)
  | held (B k h) : Hop B (B.setH k h)
def Hops (B C : BookV) : Prop := ∃ D, Hop B D ∧ Hop D C
theorem Hops.one {B C : BookV} (h : Hop B C) : Hops B C := ⟨C, h, .refl C⟩
theorem Hops.none (B : BookV) : Hops B B := ⟨B, .refl B, .refl B⟩
theorem Stay.refl (y : OwnV) : Stay y y := ⟨rfl, rfl, rfl, rfl, fun h => ⟨Int.le_refl _, h⟩⟩
theorem Stay.trans {x y z : OwnV} (h : Stay x y) (g : Stay y z) : Stay x z := ⟨g.s.trans h.s, g.v.trans h.v, g.l.trans h.l, g.paid.trans h.paid, fun hn => ⟨Int.le_trans (h.n hn).1 (g.n (h.n hn).2).1, (g.n (h.n hn).2).2⟩⟩
structure BIN (B : BookV) : Prop where
  bi : BI B
  nn : ∀ k o, lkt B.owns k = some o → NonceI o.k.n
structure StayB (B C : BookV) : Prop where
  docs : C.docs = B.docs
  self : C.self = B.self
  n : C.n = B.n
  own : ∀ k, (lkt B.owns k = none ∧ lkt C.owns k = none) ∨ ∃ y z, lkt B.owns k = some y ∧ lkt C.owns k = some z ∧ Stay y z
theorem StayB.refl (B : BookV) : StayB B B := ⟨rfl, rfl, rfl, fun k => by
  cases h : lkt B.owns k with
  | none => exact .inl ⟨rfl, rfl⟩
  | some y => exact .inr ⟨y, y, rfl, rfl, Stay.refl y⟩⟩
theorem StayB.trans {B C D : BookV} (h : StayB B C) (g : StayB C D) : StayB B D := ⟨g.docs.trans h.docs, g.self.trans h.self, g.n.trans h.n, fun k => by
  rcases h.own k with ⟨h1, h2⟩ | ⟨x, y, h1, h2, h3⟩
  · rcases g.own k with ⟨g1, g2⟩ | ⟨y, z, g1, g2, g3⟩
    · exact .inl ⟨h1, g2⟩
    · rw [h2] at g1; cases g1
  · rcases g.own k with ⟨g1, g2⟩ | ⟨y', z, g1, g2, g3⟩
    · rw [h2] at g1; cases g1
    · rw [h2] at g1; cases g1
      exact .inr ⟨x, z, h1, g2, h3.trans g3⟩⟩
theorem Hop.stay {B C : BookV} (h : Hop B C) : StayB B C := by
  cases h with
  | refl => exact StayB.refl B
  | own k y z hk hs =>
    obtain ⟨e1, e2, e3, e4⟩ := setO_same B k z
    refine ⟨e1, e2, e3, fun k' => ?_⟩
    rw [setO_lk]
    by_cases q : k = k'
    · subst q
      rw [if_pos rfl, hk]; exact .inr ⟨y, z, rfl, rfl, hs⟩
    · rw [if_neg q]; exact (StayB.refl B).own k'
  | held k x =>
    obtain ⟨e1, e2, e3, e4⟩ := setH_same B k x
    exact ⟨e1, e2, e3, fun k' => by rw [e4]; exact (StayB.refl B).own k'⟩
theorem Hops.stay {B C : BookV} (h : Hops B C) : StayB B C := by
  obtain ⟨D, h1, h2⟩ := h
  exact h1.stay.trans h2.stay
theorem iss_nonce (t : Tid) (s : SaleV) (vs : List Int) (L : OwnsV) (h : ∀ k o, lkt L k = some o → NonceI o.k.n) : ∀ (i : Nat) k o, lkt (issO t s vs L i) k = some o → NonceI o.k.n
  | 0, k, o, e => h k o e
  | i + 1, k, o, e => by
    unfold issO at e
    rw [lkt_put] at e
    split at e
    · cases e; exact ⟨Int.le_refl _, by show (0 : Int) ≤ _; decide⟩
    · exact iss_nonce t s vs L h i k o e
theorem BIN.step {B : BookV} (h : BIN B) {x : Act15} (ok : SaleOk x.s) (ho : OwnOk x.o) (hn : NonceI x.o.k.n) : BIN (step15 B x) := by
  refine ⟨h.bi.step ok ho, fun k o hk => ?_⟩
  unfold step15 at hk
  split at hk
  · unfold BookV.issue at hk
    cases hd : decide (B.issE x.s = 0) with
    | true => rw [hd] at hk; exact iss_nonce _ _ _ _ h.nn _ k o hk
    | false => rw [hd] at hk; exact h.nn k o hk
  split at hk
  · rw [setO_lk] at hk
    split at hk
    · cases hq : lkt B.owns x.k with
      | none => rw [hq] at hk; cases hk
      | some y => rw [hq] at hk; cases hk; exact hn
    · exact h.nn k o hk
  split at hk
  · rw [(setH_same B x.k x.h).2.2.2] at hk; exact h.nn k o hk
  exact h.nn k o hk
section
variable {A B : BookV} {D U : List MsV} {acc : Nat}
end
structure Act18 where
  d : Int
  k : Kid
  cmd : Int
  amt : Int
  frm : Int
  m : MsV
deriving Inhabited
def StI (s : Int) : Prop := 0 ≤ s ∧ s ≤ 255
structure BStay (y z : OwnV) : Prop where
  away : z.away = y.away
  dst : z.dst = y.dst
  v : z.k.v = y.k.v
  n : z.k.n = y.k.n
  paid : y.paid = true → z.paid = true
  s : StI y.k.s → StI z.k.s
structure HStay (y z : HeldV) : Prop where
  here : z.here = y.here
  wanted : z.wanted = y.wanted
  v : z.k.v = y.k.v
  paid : y.paid = true → z.paid = true
  s : StI y.k.s → StI z.k.s
theorem BStay.refl (y : OwnV) : BStay y y := ⟨rfl, rfl, rfl, rfl, id, id⟩
theorem HStay.refl (y : HeldV) : HStay y y := ⟨rfl, rfl, rfl, id, id⟩
inductive BHop (nm : Kid) : BookV → BookV → Prop
  | refl (B) : BHop nm B B
  | own (B y z) : lkt B.owns nm = some y → BStay y z → BHop nm B (B.setO nm z)
  | held (B y z) : lkt B.helds nm = some y → HStay y z → BHop nm B (B.setH nm z)
structure BIS (B : BookV) : Prop where
  bi : BI B
  os : ∀ k o, lkt B.owns k = some o → StI o.k.s
  hs : ∀ k h, lkt B.helds k = some h → StI h.k.s
structure BStayB (nm : Kid) (B C : BookV) : Prop where
  docs : C.docs = B.docs
  self : C.self = B.self
  n : C.n = B.n
  own : ∀ k, (lkt B.owns k = none ∧ lkt C.owns k = none) ∨ ∃ y z, lkt B.owns k = some y ∧ lkt C.owns k = some z ∧ BStay y z
  held : ∀ k, (lkt B.helds k = none ∧ lkt C.helds k = none) ∨ ∃ y z, lkt B.helds k = some y ∧ lkt C.helds k = some z ∧ HStay y z
  owne : ∀ k, k ≠ nm → lkt C.owns k = lkt B.owns k
  helde : ∀ k, k ≠ nm → lkt C.helds k = lkt B.helds k
  keys : C.helds.map (·.1) = B.helds.map (·.1)
theorem same_own (B : BookV) (k : Kid) : (lkt B.owns k = none ∧ lkt B.owns k = none) ∨ ∃ y z, lkt B.owns k = some y ∧ lkt B.owns k = some z ∧ BStay y z := by
  cases lkt B.owns k with
  | none => exact .inl ⟨rfl, rfl⟩
  | some y => exact .inr ⟨y, y, rfl, rfl, BStay.refl y⟩
theorem same_held (B : BookV) (k : Kid) : (lkt B.helds k = none ∧ lkt B.helds k = none) ∨ ∃ y z, lkt B.helds k = some y ∧ lkt B.helds k = some z ∧ HStay y z := by
  cases lkt B.helds k with
  | none => exact .inl ⟨rfl, rfl⟩
  | some y => exact .inr ⟨y, y, rfl, rfl, HStay.refl y⟩
theorem lkt_key {κ α : Type} [DecidableEq κ] {L : List (κ × α)} {k : κ} {y : α} (h : lkt L k = some y) : k ∈ L.map (·.1) := by
  by_cases q : k ∈ L.map (·.1)
  · exact q
  · rw [lkt_none.2 q] at h; cases h
theorem setH_at {B : BookV} (b : BI B) {k : Kid} {y : HeldV} (h : lkt B.helds k = some y) (z : HeldV) : B.setH k z = { B with helds := putt B.helds k z } := by
  refine setH_ok ?_ z
  rcases setHE_cases B k with ⟨-, gb⟩ | ⟨-, -, gn, -⟩ | ⟨g, -⟩
  · rw [b.hk k y h] at gb; cases gb
  · rw [gn] at h; cases h
  · exact g
theorem BHop.stay {nm : Kid} {B C : BookV} (h : BHop nm B C) (b : BI B) : BStayB nm B C := by
  cases h with
  | refl => exact ⟨rfl, rfl, rfl, same_own B, same_held B, fun _ _ => rfl, fun _ _ => rfl, rfl⟩
  | own y z hk hs =>
    obtain ⟨e1, e2, e3, e4⟩ := setO_same B nm z
    refine ⟨e1, e2, e3, fun k' => ?_, fun k' => by rw [e4]; exact same_held B k', fun k' hne => ?_, fun k' _ => by rw [e4], by rw [e4]⟩
    · rw [setO_lk]
      by_cases q : nm = k'
      · subst q
        rw [if_pos rfl, hk]; exact .inr ⟨y, z, rfl, rfl, hs⟩
      · rw [if_neg q]; exact same_own B k'
    · rw [setO_lk, if_neg (Ne.symm hne)]
  | held y z hk hs =>
    rw [setH_at b hk z]
    refine ⟨rfl, rfl, rfl, same_own B, fun k' => ?_, fun _ _ => rfl, fun k' hne => ?_, putt_keys nm z (lkt_key hk)⟩
    · show _ ∨ ∃ y z', lkt B.helds k' = some y ∧ lkt (putt B.helds nm z) k' = some z' ∧ HStay y z'
      rw [lkt_put]
      by_cases q : nm = k'
      · subst q
        exact .inr ⟨y, z, hk, if_pos rfl, hs⟩
      · rw [if_neg q]
        exact same_held B k'
    · show lkt (putt B.helds nm z) k' = _
      rw [lkt_put, if_neg (Ne.symm hne)]
structure BHopR (nm : Kid) (B : BookV) (q : HR) : Prop where
  hop : BHop nm B q.b
  fail : q.e ≠ 0 → q.out = [] ∧ q.b = B
  one : q.out.length ≤ 1
theorem BHopR.no {nm : Kid} {B : BookV} (e : Int) : BHopR nm B ⟨[], e, B⟩ := ⟨.refl B, fun _ => ⟨rfl, rfl⟩, Nat.zero_le _⟩
def nmB (x : Act18) : Kid := if x.d = 0 then x.k else if x.d = 1 then x.k else x.m.key
theorem iss_st (t : Tid) (s : SaleV) (vs : List Int) (L : OwnsV) (h : ∀ k o, lkt L k = some o → StI o.k.s) : ∀ (i : Nat) k o, lkt (issO t s vs L i) k = some o → StI o.k.s
  | 0, k, o, e => h k o e
  | i + 1, k, o, e => by
    unfold issO at e
    rw [lkt_put] at e
    split at e
    · cases e; exact ⟨by show (0 : Int) ≤ 1; decide, by show (1 : Int) ≤ 255; decide⟩
    · exact iss_st t s vs L h i k o e
theorem BIS.step {B : BookV} (h : BIS B) {x : Act15} (ok : SaleOk x.s) (ho : OwnOk x.o) (h1 : StI x.o.k.s) (h2 : StI x.h.k.s) : BIS (step15 B x) := by
  refine ⟨h.bi.step ok ho, fun k o hk => ?_, fun k y hk => ?_⟩
  · unfold step15 at hk
    split at hk
    · unfold BookV.issue at hk
      cases hd : decide (B.issE x.s = 0) with
      | true => rw [hd] at hk; exact iss_st _ _ _ _ h.os _ k o hk
      | false => rw [hd] at hk; exact h.os k o hk
    split at hk
    · rw [setO_lk] at hk
      split at hk
      · cases hq : lkt B.owns x.k with
        | none => rw [hq] at hk; cases hk
        | some y => rw [hq] at hk; cases hk; exact h1
      · exact h.os k o hk
    split at hk
    · rw [(setH_same B x.k x.h).2.2.2] at hk; exact h.os k o hk
    exact h.os k o hk
  · unfold step15 at hk
    split at hk
    · unfold BookV.issue at hk
      cases hd : decide (B.issE x.s = 0) with
      | true => rw [hd] at hk; exact h.hs k y hk
      | false => rw [hd] at hk; exact h.hs k y hk
    split at hk
    · rw [(setO_same B x.k x.o).2.2.2] at hk; exact h.hs k y hk
    split at hk
    · rcases setHE_cases B x.k with ⟨g, -⟩ | ⟨g, -⟩ | ⟨g, -⟩
      · rw [setH_not (by rw [g]; decide)] at hk; exact h.hs k y hk
      · rw [setH_not (by rw [g]; decide)] at hk; exact h.hs k y hk
      · rw [setH_ok g] at hk
        have hk : lkt (putt B.helds x.k x.h) k = some y := hk
        rw [lkt_put] at hk
        split at hk
        · cases hk; exact h2
        · exact h.hs k y hk
    exact h.hs k y hk
structure RelB (B : BookV) (R : RefV) : Prop where
  self : R.self = B.self
  n : R.n = B.n
  docs : R.docs.map (·.1) = B.docs
  own : ∀ k, lkt R.owns k = lkt B.owns k
  ownN : (R.owns.map (·.1)).Nodup
  ownK : ∀ p ∈ R.owns, KidOk p.1 ∧ p.1.t.r ≤ (R.docs.length : Int)
  held : ∀ k, lkt R.helds k = lkt B.helds k
  keys : R.helds.map (·.1) = keysL B
theorem RelB.dlen {B : BookV} {R : RefV} (h : RelB B R) : R.docs.length = B.docs.length := by rw [← h.docs, List.length_map]
theorem RelB.hlen {B : BookV} {R : RefV} (h : RelB B R) : R.helds.length = B.helds.length := by
  have := congrArg List.length h.keys
  rw [List.length_map, keysL_len] at this
  exact this
theorem new_rel (self n : Int) : RelB (bookNew self n) (refNew self n) := ⟨rfl, rfl, rfl, fun _ => rfl, List.nodup_nil, (fun p hp => by cases hp), fun _ => rfl, by show ([] : List Kid) = sortBy cfK []; unfold sortBy; simp⟩
theorem lkt_append {κ α : Type} [DecidableEq κ] (L M : List (κ × α)) (k : κ) : lkt (L ++ M) k = (lkt L k).or (lkt M k) := by
  induction L with
  | nil => rfl
  | cons p l ih =>
    show (if p.1 = k then some p.2 else lkt (l ++ M) k) = (if p.1 = k then some p.2 else lkt l k).or (lkt M k)
    by_cases q : p.1 = k
    · rw [if_pos q, if_pos q]; rfl
    · rw [if_neg q, if_neg q, ih]
theorem issR_at {t : Tid} {s : SaleV} {vs : List Int} {L : List (Kid × OwnV)} (hf : ∀ p ∈ L, p.1.t ≠ t) : ∀ (i : Nat) (p : Kid × OwnV), p ∈ issR t s vs L i → p ∈ L ∨ (p.1.t = t ∧ 0 ≤ p.1.i ∧ p.1.i < (i : Int))
  | 0, p, h => .inl h
  | i + 1, p, h => by
    rcases List.mem_append.1 (show p ∈ issR t s vs L i ++ [_] from h) with h | h
    · rcases issR_at hf i p h with h | ⟨h1, h2, h3⟩
      · exact .inl h
      · exact .inr ⟨h1, h2, by omega⟩
    · rw [List.mem_singleton] at h
      subst h
      exact .inr ⟨rfl, by show 0 ≤ (i : Int); omega, by show (i : Int) < ((i + 1 : Nat) : Int); omega⟩
theorem iss_rel {t : Tid} {s : SaleV} {vs : List Int} {L M : List (Kid × OwnV)} (hf : ∀ p ∈ L, p.1.t ≠ t) (h : ∀ k, lkt L k = lkt M k) (hn : (L.map (·.1)).Nodup) : ∀ i, (∀ k, lkt (issR t s vs L i) k = lkt (issO t s vs M i) k) ∧ ((issR t s vs L i).map (·.1)).Nodup
  | 0 => ⟨h, hn⟩
  | i + 1 => by
    obtain ⟨h1, h2⟩ := iss_rel hf h hn i
    have hno : (⟨t, (i : Int)⟩ : Kid) ∉ (issR t s vs L i).map (·.1) := fun hm => by
      obtain ⟨p, hp, e⟩ := List.mem_map.1 hm
      rcases issR_at hf i p hp with hp | ⟨e1, e2, e3⟩
      · exact hf p hp (by rw [e])
      · rw [e] at e3
        have e3 : (i : Int) < (i : Int) := e3
        omega
    constructor
    · intro k
      show lkt (issR t s vs L i ++ [_]) k = lkt (putt (issO t s vs M i) _ _) k
      rw [lkt_append, lkt_put, ← h1]
      by_cases q : (⟨t, (i : Int)⟩ : Kid) = k
      · subst q
        rw [lkt_none.2 hno, if_pos rfl]
        show lkt [_] _ = _
        unfold lkt
        rw [if_pos rfl]
      · rw [if_neg q]
        have : lkt [((⟨t, (i : Int)⟩ : Kid), ownNew (s.legs.getD i leg0) (vs.getD i 0))] k = none := by
          unfold lkt
          rw [if_neg q]; rfl
        rw [this]
        cases lkt (issR t s vs L i) k <;> rfl
    · show ((issR t s vs L i ++ [((⟨t, (i : Int)⟩ : Kid), ownNew (s.legs.getD i leg0) (vs.getD i 0))]).map (fun q : Kid × OwnV => q.1)).Nodup
      rw [List.map_append, List.nodup_append]
      exact ⟨h2, by simp, fun x hx y hy e => by simp only [List.map_cons, List.map_nil, List.mem_singleton] at hy; rw [e, hy] at hx; exact hno hx⟩
theorem RelB.issE {B : BookV} {R : RefV} (h : RelB B R) (s : SaleV) : R.issE s = B.issE s := by unfold RefV.issE BookV.issE; rw [h.dlen, h.self, h.n]
theorem RelB.nextT {B : BookV} {R : RefV} (h : RelB B R) : R.nextT = B.nextT := by unfold RefV.nextT BookV.nextT; rw [h.dlen, h.self]
theorem RelB.issue {B : BookV} {R : RefV} (h : RelB B R) (hb : BookOk B) {s : SaleV} (ok : SaleOk s) (A : SaleA) : RelB (B.issue s) (R.issue s A) := by
  unfold BookV.issue RefV.issue
  rw [h.issE]
  by_cases e : B.issE s = 0
  case neg => rw [decide_eq_false e]; exact h
  rw [decide_eq_true e]
  have hr := R.issE_ok ok (by rw [h.issE]; exact e)
  have hlen : (R.docs ++ [(docMade R.nextT s, A)]).length = R.docs.length + 1 := by rw [List.length_append]; rfl
  have hf : ∀ p ∈ R.owns, p.1.t ≠ B.nextT := fun p hp e => by
    have := (h.ownK p hp).2
    rw [e] at this
    have : (B.docs.length : Int) + 1 ≤ (R.docs.length : Int) := this
    rw [h.dlen] at this
    omega
  have t0 : TidOk B.nextT := ⟨by have := hb.self; have := hb.n; show 0 ≤ B.self ∧ B.self ≤ 255; omega, by show 0 ≤ (B.docs.length : Int) + 1; omega, by have := hb.many; show (B.docs.length : Int) + 1 ≤ _; omega⟩
  obtain ⟨h1, h2⟩ := iss_rel (t := B.nextT) (s := s) (vs := shareV s.fare (wsOf s)) hf h.own h.ownN (shareV s.fare (wsOf s)).length
  refine ⟨h.self, h.n, ?_, ?_, ?_, ?_, h.held, h.keys⟩
  · show (R.docs ++ [(docMade R.nextT s, A)]).map (fun q : DocV × SaleA => q.1) = B.docs ++ [docMade B.nextT s]
    rw [List.map_append, h.docs, h.nextT, List.map_cons, List.map_nil]
  · show ∀ k, lkt (issR R.nextT s _ R.owns _) k = lkt (issO B.nextT s _ B.owns _) k
    rw [h.nextT]; exact h1
  · show ((issR R.nextT s _ R.owns _).map (·.1)).Nodup
    rw [h.nextT]; exact h2
  · show ∀ p ∈ issR R.nextT s _ R.owns _, KidOk p.1 ∧ p.1.t.r ≤ ((R.docs ++ [(docMade R.nextT s, A)]).length : Int)
    rw [hlen, h.nextT]
    intro p hp
    rcases issR_at hf _ p hp with hp | ⟨e1, e2, e3⟩
    · have := h.ownK p hp
      exact ⟨this.1, by have := this.2; omega⟩
    · refine ⟨⟨by rw [e1]; exact t0, by omega, by omega⟩, ?_⟩
      rw [e1]
      show (B.docs.length : Int) + 1 ≤ _
      rw [← h.dlen]; omega
theorem stO_rel {B : BookV} {R : RefV} (h : RelB B R) {k : Kid} {y : OwnV} (hy : lkt B.owns k = some y) (o : OwnV) : RelB (B.setO k o) (R.stO k o) := by
  rw [← h.own] at hy
  rcases rIx_cases R.owns k with ⟨-, e⟩ | ⟨i, z, e, hi, hf⟩
  · rw [lkt_none.2 fun hm => by obtain ⟨p, hp, q⟩ := List.mem_map.1 hm; exact e p hp q] at hy; cases hy
  have hky : (R.owns.set i (k, o)).map (·.1) = R.owns.map (·.1) := by
    rw [List.map_set]
    have : (R.owns.map (·.1))[i]? = some k := by rw [List.getElem?_map, hi]; rfl
    apply List.ext_getElem?
    intro j
    rw [List.getElem?_set]
    by_cases q : i = j
    · subst q
      rw [if_pos rfl, this]
      have hil := (List.getElem?_eq_some_iff.1 this).1
      rw [if_pos hil]
    · rw [if_neg q]
  have hy2 : lkt B.owns k = some y := by rw [← h.own]; exact hy
  rw [setO_some hy2, stO_at e]
  refine ⟨h.self, h.n, h.docs, fun k' => ?_, ?_, fun p hp => ?_, h.held, h.keys⟩
  · show lkt (R.owns.set i (k, o)) k' = lkt (putt B.owns k o) k'
    rw [lkt_set hi hf, lkt_put, h.own]
  · show ((R.owns.set i (k, o)).map (·.1)).Nodup
    rw [hky]; exact h.ownN
  · have hm : p.1 ∈ (R.owns.set i (k, o)).map (·.1) := List.mem_map_of_mem hp
    rw [hky] at hm
    obtain ⟨q, hq, e2⟩ := List.mem_map.1 hm
    rw [← e2]; exact h.ownK q hq
theorem stH_rel {B : BookV} {R : RefV} (h : RelB B R) (b : BI B) {k : Kid} {y : HeldV} (hy : lkt B.helds k = some y) (o : HeldV) (hset : B.setH k o = { B with helds := putt B.helds k o }) : RelB (B.setH k o) (R.stH k o) := by
  have hy1 := hy
  rw [← h.held] at hy
  rcases rIx_cases R.helds k with ⟨-, e⟩ | ⟨i, z, e, hi, hf⟩
  · rw [lkt_none.2 fun hm => by obtain ⟨p, hp, q⟩ := List.mem_map.1 hm; exact e p hp q] at hy; cases hy
  have hky : (R.helds.set i (k, o)).map (·.1) = R.helds.map (·.1) := by
    rw [List.map_set]
    have : (R.helds.map (·.1))[i]? = some k := by rw [List.getElem?_map, hi]; rfl
    apply List.ext_getElem?
    intro j
    rw [List.getElem?_set]
    by_cases q : i = j
    · subst q
      rw [if_pos rfl, this]
      have hil := (List.getElem?_eq_some_iff.1 this).1
      rw [if_pos hil]
    · rw [if_neg q]
  rw [hset, stH_at e]
  refine ⟨h.self, h.n, h.docs, h.own, h.ownN, h.ownK, fun k' => ?_, ?_⟩
  · show lkt (R.helds.set i (k, o)) k' = lkt (putt B.helds k o) k'
    rw [lkt_set hi hf, lkt_put, h.held]
  · show (R.helds.set i (k, o)).map (·.1) = sortBy cfK ((putt B.helds k o).map (·.1))
    have hm : k ∈ B.helds.map (·.1) := by
      by_cases q : k ∈ B.helds.map (·.1)
      · exact q
      · rw [lkt_none.2 q] at hy1; cases hy1
    rw [hky, h.keys, putt_keys k o hm]; rfl
theorem setO_rel {B : BookV} {R : RefV} (h : RelB B R) (k : Kid) (o : OwnV) : RelB (B.setO k o) (R.setO k o) := by
  have e0 := h.own k
  unfold RefV.setO
  rcases rIx_lkt R.owns k with ⟨e, hl⟩ | ⟨i, z, e, hi, hl⟩
  · rw [e, show decide ((0 : Int) ≤ -1) = false by decide]
    rw [setO_none (by rw [← e0]; exact hl)]
    exact h
  · rw [e, show decide ((0 : Int) ≤ (i : Int)) = true from decide_eq_true (by omega)]
    have := stO_rel h (k := k) (y := z) (by rw [← e0]; exact hl) o
    rw [stO_at e] at this
    exact this
theorem ahead_lt (a b : Kid) : aheadB a b = true ↔ ltK a b := by
  unfold aheadB ltK
  by_cases h1 : a.t.c = b.t.c
  · rw [show (!decide (a.t.c = b.t.c)) = false by rw [decide_eq_true h1]; rfl]
    by_cases h2 : a.t.r = b.t.r
    · rw [show (!decide (a.t.r = b.t.r)) = false by rw [decide_eq_true h2]; rfl]
      simp only [cond_false, decide_eq_true_eq]
      omega
    · rw [show (!decide (a.t.r = b.t.r)) = true by rw [decide_eq_false h2]; rfl]
      simp only [cond_false, cond_true, decide_eq_true_eq]
      omega
  · rw [show (!decide (a.t.c = b.t.c)) = true by rw [decide_eq_false h1]; rfl]
    simp only [cond_true, decide_eq_true_eq]
    omega
def SortK (l : List Kid) : Prop := l.Pairwise fun x y => (!(ltOf cfK) y x) = true
theorem sortK_lt {x y : Kid} : (!(ltOf cfK) y x) = true ↔ ¬ ltK y x := by
  rw [Bool.not_eq_true', lt_kid_no]
theorem ins_sorted {l : List (Kid × HeldV)} (hs : SortK (l.map (·.1))) {k : Kid} (hk : k ∉ l.map (·.1)) (h : HeldV) : SortK ((insH l k h).map (·.1)) := by
  unfold insH
  have hx : insIx l k ≤ l.length := insIx_le l k
  have e1 : ((l.take (insIx l k) ++ [(k, h)]) ++ l.drop (insIx l k)).map (·.1) = (l.take (insIx l k)).map (·.1) ++ ([k] ++ (l.drop (insIx l k)).map (·.1)) := by simp
  rw [e1]
  have hs' : SortK ((l.take (insIx l k)).map (·.1) ++ (l.drop (insIx l k)).map (·.1)) := by rw [← List.map_append, List.take_append_drop]; exact hs
  unfold SortK at *
  rw [List.pairwise_append] at hs'
  obtain ⟨p1, p2, p3⟩ := hs'
  have a1 : ∀ x ∈ (l.take (insIx l k)).map (·.1), ltK x k := fun x hx => by
    obtain ⟨p, hp, rfl⟩ := List.mem_map.1 hx
    obtain ⟨j, hj, rfl⟩ := List.mem_iff_getElem.1 hp
    rw [List.length_take] at hj
    rw [List.getElem_take]
    have := List.not_of_lt_findIdx (p := fun p : Kid × HeldV => !aheadB p.1 k) (xs := l) (i := j) (by unfold insIx at hj; omega)
    rw [← ahead_lt]
    simpa using this
  have a2 : ∀ x ∈ (l.drop (insIx l k)).map (·.1), ¬ ltK x k := fun x hx => by
    obtain ⟨p, hp, rfl⟩ := List.mem_map.1 hx
    cases hd : l.drop (insIx l k) with
    | nil => rw [hd] at hp; cases hp
    | cons q r =>
      have hlt : insIx l k < l.length := by
        rcases Nat.lt_or_ge (insIx l k) l.length with g | g
        · exact g
        · rw [List.drop_eq_nil_of_le g] at hd; cases hd
      have hq : l[insIx l k] = q := by
        have := List.drop_eq_getElem_cons hlt
        rw [hd] at this
        exact (List.cons.inj this).1.symm
      have hnq : ¬ ltK q.1 k := by
        have : (!aheadB (l[insIx l k]).1 k) = true := List.findIdx_getElem (p := fun p : Kid × HeldV => !aheadB p.1 k) (w := hlt)
        rw [hq] at this
        rw [← ahead_lt]
        simpa using this
      rw [hd] at hp p2
      rcases List.mem_cons.1 hp with e | e
      · rw [e]; exact hnq
      · rw [List.map_cons, List.pairwise_cons] at p2
        have := sortK_lt.1 (p2.1 p.1 (List.mem_map_of_mem e))
        unfold ltK at *; omega
  have a3 : ∀ x ∈ (l.drop (insIx l k)).map (·.1), ¬ ltK x k := a2
  refine List.pairwise_append.2 ⟨p1, List.pairwise_append.2 ⟨List.pairwise_singleton _ _, p2, fun x hx y hy => ?_⟩, fun x hx y hy => ?_⟩
  · rw [List.mem_singleton] at hx
    subst hx
    rw [sortK_lt]; exact a3 y hy
  · rcases List.mem_append.1 hy with hy | hy
    · rw [List.mem_singleton] at hy
      subst hy
      rw [sortK_lt]
      have := a1 x hx
      unfold ltK at *; omega
    · exact p3 x hx y hy
theorem ins_perm (l : List (Kid × HeldV)) (k : Kid) (h : HeldV) : (insH l k h).Perm ((k, h) :: l) := by
  unfold insH
  rw [List.append_assoc]
  refine List.perm_middle.trans ?_
  show ((k, h) :: (l.take (insIx l k) ++ l.drop (insIx l k))).Perm _
  rw [List.take_append_drop]
theorem ins_lkt {l : List (Kid × HeldV)} {k : Kid} (hk : k ∉ l.map (·.1)) (x : HeldV) (k' : Kid) : lkt (insH l k x) k' = if k = k' then some x else lkt l k' := by
  unfold insH
  have e : lkt l k' = (lkt (l.take (insIx l k)) k').or (lkt (l.drop (insIx l k)) k') := by rw [← lkt_append, List.take_append_drop]
  have e1 : lkt [(k, x)] k' = if k = k' then some x else none := rfl
  rw [lkt_append, lkt_append, e1]
  by_cases q : k = k'
  · subst q
    have : lkt (l.take (insIx l k)) k = none := lkt_none.2 fun hm => hk (by
      obtain ⟨p, hp, e⟩ := List.mem_map.1 hm
      exact e ▸ List.mem_map_of_mem (List.mem_of_mem_take hp))
    rw [this, if_pos rfl, if_pos rfl]; rfl
  · rw [if_neg q, if_neg q, e]
    cases lkt (l.take (insIx l k)) k' <;> rfl
theorem keysL_sorted (B : BookV) : SortK (keysL B) := sortBy_pair swoK _
theorem setHE_rel {B : BookV} {R : RefV} (h : RelB B R) (k : Kid) : R.setHE k = B.setHE k := by
  have e0 := h.held k
  have hb : R.badK k = B.badK k := by
    unfold RefV.badK BookV.badK ticketB
    rw [h.self, h.n]
    by_cases h1 : k.t.c < B.n
    · rw [decide_eq_true h1, decide_eq_false (show ¬ B.n ≤ k.t.c by omega)]
      by_cases h2 : 1 ≤ k.t.r
      · rw [decide_eq_true h2, decide_eq_false (show ¬ k.t.r < 1 by omega)]
        by_cases h3 : k.t.r ≤ 9999999999
        · rw [decide_eq_true h3, decide_eq_false (show ¬ 9999999999 < k.t.r by omega)]; rfl
        · rw [decide_eq_false h3, decide_eq_true (show 9999999999 < k.t.r by omega)]; rfl
      · rw [decide_eq_false h2, decide_eq_true (show k.t.r < 1 by omega)]; rfl
    · rw [decide_eq_false h1, decide_eq_true (show B.n ≤ k.t.c by omega)]; rfl
  unfold RefV.setHE BookV.setHE
  rw [hb, h.hlen]
  cases B.badK k with
  | true => rfl
  | false =>
    simp only [cond_false]
    rcases rIx_lkt R.helds k with ⟨e, hl⟩ | ⟨i, z, e, hi, hl⟩
    · rw [e, ← e0, hl, show decide ((0 : Int) ≤ -1) = false by decide]
      have : decide ((64 : Int) ≤ (B.helds.length : Int)) = decide (64 ≤ B.helds.length) := decide_eq_decide.2 (by omega)
      rw [this]; rfl
    · rw [e, ← e0, hl, show decide ((0 : Int) ≤ (i : Int)) = true from decide_eq_true (by omega)]; rfl
theorem setH_rel {B : BookV} {R : RefV} (h : RelB B R) (b : BI B) (k : Kid) (x : HeldV) : RelB (B.setH k x) (R.setH k x) := by
  have hE := setHE_rel h k
  have e0 := h.held k
  by_cases hb : R.badK k = true
  · have e1 : R.setHE k = 1 := by unfold RefV.setHE; rw [hb]; rfl
    rw [show R.setH k x = R by unfold RefV.setH; rw [hb]; rfl, setH_not (by rw [← hE, e1]; decide)]
    exact h
  have hb : R.badK k = false := by simpa using hb
  rcases rIx_lkt R.helds k with ⟨e, hl⟩ | ⟨i, z, e, hi, hl⟩
  · by_cases h64 : (64 : Int) ≤ (R.helds.length : Int)
    · have e1 : R.setHE k = 3 := by
        unfold RefV.setHE
        rw [hb, e, decide_eq_true h64]; rfl
      rw [show R.setH k x = R by unfold RefV.setH; rw [hb, e, decide_eq_true h64]; rfl, setH_not (by rw [← hE, e1]; decide)]
      exact h
    · have e1 : R.setHE k = 0 := by
        unfold RefV.setHE
        rw [hb, e, decide_eq_false h64]; rfl
      rw [show R.setH k x = { R with helds := insH R.helds k x } by unfold RefV.setH; rw [hb, e, decide_eq_false h64]; rfl, setH_ok (by rw [← hE]; exact e1)]
      have hn : k ∉ R.helds.map (·.1) := lkt_none.1 hl
      have hn2 : k ∉ B.helds.map (·.1) := lkt_none.1 (by rw [← e0]; exact hl)
      refine ⟨h.self, h.n, h.docs, h.own, h.ownN, h.ownK, fun k' => ?_, ?_⟩
      · show lkt (insH R.helds k x) k' = lkt (putt B.helds k x) k'
        rw [lkt_put, ← h.held]
        exact ins_lkt hn x k'
      · show (insH R.helds k x).map (·.1) = sortBy cfK ((putt B.helds k x).map (·.1))
        have hs : SortK (R.helds.map (·.1)) := by rw [h.keys]; exact keysL_sorted B
        have h1 := sortBy_self swoK totK (ins_sorted hs hn x)
        rw [← h1]
        refine sortBy_eq swoK totK ?_
        rw [Go.Sx.putt_new k x hn2, List.map_append]
        refine ((ins_perm R.helds k x).map (·.1)).trans ?_
        rw [List.map_cons, h.keys]
        refine (List.Perm.cons k (sortBy_perm cfK (B.helds.map (·.1)))).trans ?_
        exact (List.perm_append_comm (l₁ := [k]) (l₂ := B.helds.map (·.1)))
  · have e1 : R.setHE k = 0 := by
      unfold RefV.setHE
      rw [hb, e, show decide ((0 : Int) ≤ (i : Int)) = true from decide_eq_true (by omega)]; rfl
    have := stH_rel h b (k := k) (y := z) (by rw [← e0]; exact hl) x (setH_ok (by rw [← hE]; exact e1) x)
    rw [stH_at e] at this
    rw [show R.setH k x = { R with helds := R.helds.set i (k, x) } by unfold RefV.setH; rw [hb, e, show decide ((0 : Int) ≤ (i : Int)) = true from decide_eq_true (by omega)]; rfl]
    exact this
end Go.Proofs.YtmhbpifhpolghaaGreat
end
