/- HoP4, PostPlain, Flat, BoxLoad, PostAct, Lw16f, Lw16n. -/
import Derived.Test.YtjeppnhkgiljpaaM551c3f3
import Derived.Test.YtjeppnhkgiljpaaM0eb6659
import Derived.Test.YtjeppnhkgiljpaaM353d50f
import Derived.WideShapes
import Derived.Lib.SmallJoins
import Derived.Shelf.SlicesQ.Load
import Derived.Test.YtjeppnhkgiljpaaRows
section
namespace Go.Proofs.Ytjeppnhkgiljpaa
set_option maxRecDepth 100000
open Go.RowKit Go.Lib Go.Tk Go.Shelf Go.Vc Go.Sx
set_option linter.unusedVariables false
set_option linter.unusedSimpArgs false

theorem out_len {out : List OutV} {tw : Int} (h : OutTo out tw) : (outsM out).length ≤ 1 := by
  rcases h with rfl | ⟨x, rfl, -⟩ <;> simp [outsM]
theorem step_ok {σ : HSt} (h : InvP σ) {d j : Int} (h0 : 0 ≤ j) (h1 : j ≤ 4) : InvP (stepH σ d j) ∧ GoodH σ d j ∧ (stepH σ d j).down.length ≤ σ.down.length + 1 ∧ (stepH σ d j).up.length ≤ σ.up.length + 1 := by
  obtain ⟨A, B, D, U⟩ := σ
  have fin0 : ∀ B' out D', D'.length ≤ D.length + 1 → stepH ⟨A, B, D, U⟩ d j = ⟨A, B', D', U ++ outsM out⟩ → outH ⟨A, B, D, U⟩ d j = out → eH ⟨A, B, D, U⟩ d = 0 → toH d = 0 → (InvP ⟨A, B', D', U ++ outsM out⟩ ∧ OutTo out 0) →
      InvP (stepH ⟨A, B, D, U⟩ d j) ∧ GoodH ⟨A, B, D, U⟩ d j ∧ (stepH ⟨A, B, D, U⟩ d j).down.length ≤ D.length + 1 ∧ (stepH ⟨A, B, D, U⟩ d j).up.length ≤ U.length + 1 := by
    intro B' out D' hD e1 e2 e3 e4 key
    have hl := out_len key.2
    rw [e1]
    exact ⟨key.1, ⟨e3, by rw [e2, e4]; exact key.2⟩, hD, by show (U ++ outsM out).length ≤ _; rw [List.length_append]; omega⟩
  have fin1 : ∀ A' out U', U'.length ≤ U.length + 1 → stepH ⟨A, B, D, U⟩ d j = ⟨A', B, D ++ outsM out, U'⟩ → outH ⟨A, B, D, U⟩ d j = out → eH ⟨A, B, D, U⟩ d = 0 → toH d = 1 → (InvP ⟨A', B, D ++ outsM out, U'⟩ ∧ OutTo out 1) →
      InvP (stepH ⟨A, B, D, U⟩ d j) ∧ GoodH ⟨A, B, D, U⟩ d j ∧ (stepH ⟨A, B, D, U⟩ d j).down.length ≤ D.length + 1 ∧ (stepH ⟨A, B, D, U⟩ d j).up.length ≤ U.length + 1 := by
    intro A' out U' hU e1 e2 e3 e4 key
    have hl := out_len key.2
    rw [e1]
    exact ⟨key.1, ⟨e3, by rw [e2, e4]; exact key.2⟩, by show (D ++ outsM out).length ≤ _; rw [List.length_append]; omega, hU⟩
  by_cases d0 : d = 0
  · refine fin0 (wantQ B (keyA j)).b (wantQ B (keyA j)).out D (by omega) (by unfold stepH; rw [if_pos d0]) (by unfold outH; rw [if_pos d0]) (by unfold eH; rw [if_pos d0]) (by unfold toH; rw [if_pos d0]) ?_
    rcases key_cases h0 h1 with q | rfl
    · exact want_k h q rfl
    · rw [want_4 h]; exact ⟨app_nil h, .inl rfl⟩
  by_cases d1 : d = 1
  · refine fin0 (returnQ B (keyA j)).b (returnQ B (keyA j)).out D (by omega) (by unfold stepH; rw [if_neg d0, if_pos d1]) (by unfold outH; rw [if_neg d0, if_pos d1]) (by unfold eH; rw [if_neg d0, if_pos d1]) (by unfold toH; rw [if_neg d0, if_pos d1]) ?_
    rcases key_cases h0 h1 with q | rfl
    · exact return_k h q rfl
    · rw [return_4 h]; exact ⟨app_nil h, .inl rfl⟩
  by_cases d2 : d = 2
  · refine fin1 (recallQ A (keyA j)).b (recallQ A (keyA j)).out U (by omega) (by unfold stepH; rw [if_neg d0, if_neg d1, if_pos d2]) (by unfold outH; rw [if_neg d0, if_neg d1, if_pos d2]) (by unfold eH; rw [if_neg d0, if_neg d1, if_pos d2]) (by unfold toH; rw [if_neg d0, if_neg d1, if_pos d2]) ?_
    rcases key_cases h0 h1 with q | rfl
    · exact recall_k h q
    · rw [recall_4 h]; exact ⟨app_nilD h, .inl rfl⟩
  by_cases d3 : d = 3
  · have t : toH d = 0 := by unfold toH; rw [if_neg d0, if_neg d1, if_neg d2, if_pos d3]
    cases D with
    | nil => exact fin0 B [] [] (by simp) (by unfold stepH; rw [if_neg d0, if_neg d1, if_neg d2, if_pos d3]; simp [outsM]) (by unfold outH; rw [if_neg d0, if_neg d1, if_neg d2, if_pos d3]) (by unfold eH; rw [if_neg d0, if_neg d1, if_neg d2, if_pos d3]) t ⟨app_nil h, .inl rfl⟩
    | cons m D =>
      have key := hearD_k h
      exact fin0 (hearQ B 0 m).b (hearQ B 0 m).out D (by simp only [List.length_cons]; omega) (by unfold stepH; rw [if_neg d0, if_neg d1, if_neg d2, if_pos d3]) (by unfold outH; rw [if_neg d0, if_neg d1, if_neg d2, if_pos d3]) (by unfold eH; rw [if_neg d0, if_neg d1, if_neg d2, if_pos d3]; exact key.2.1) t ⟨key.1, key.2.2⟩
  have t : toH d = 1 := by unfold toH; rw [if_neg d0, if_neg d1, if_neg d2, if_neg d3]
  cases U with
  | nil => exact fin1 A [] [] (by simp) (by unfold stepH; rw [if_neg d0, if_neg d1, if_neg d2, if_neg d3]; simp [outsM]) (by unfold outH; rw [if_neg d0, if_neg d1, if_neg d2, if_neg d3]) (by unfold eH; rw [if_neg d0, if_neg d1, if_neg d2, if_neg d3]) t ⟨app_nilD h, .inl rfl⟩
  | cons m U =>
    have key := hearU_k h
    exact fin1 (hearQ A 1 m).b (hearQ A 1 m).out U (by simp only [List.length_cons]; omega) (by unfold stepH; rw [if_neg d0, if_neg d1, if_neg d2, if_neg d3]) (by unfold outH; rw [if_neg d0, if_neg d1, if_neg d2, if_neg d3]) (by unfold eH; rw [if_neg d0, if_neg d1, if_neg d2, if_neg d3]; exact key.2.1) t ⟨key.1, key.2.2⟩
theorem one_new (l : Leg) (v : Int) (k : Kid) : OneP (ownNew l v) held0 k [] [] :=
  ⟨fun _ => ⟨rfl, rfl, rfl⟩, (fun e => by cases e), (fun m hm => by cases hm), (fun m hm => by cases hm), (fun e => by cases e), by show (0 : Int) ≤ 0; decide, (fun e => by cases e), by show (0 : Int) ≤ 0; decide, by show (0 : Int) ≤ _; decide⟩
theorem start_ok : InvP startH := by
  have hl : (shareV sale16b.fare (wsOf sale16b)).length = 4 := shareV_len (show shareE sale16b.fare (wsOf sale16b) = 0 by kernel_rfl)
  have hO : ∃ vs, startH.a.owns = issO tA sale16b vs [] 4 := ⟨shareV sale16b.fare (wsOf sale16b), by
    show issO (bookNew 0 2).nextT sale16b (shareV sale16b.fare (wsOf sale16b)) [] (shareV sale16b.fare (wsOf sale16b)).length = _
    rw [hl]; rfl⟩
  obtain ⟨vs, hO⟩ := hO
  have hK : (issO tA sale16b vs [] 4).map (·.1) = keysA := rfl
  refine ⟨fun k hk => ?_, rfl, rfl, rfl, rfl, fun k hk => ?_, rfl, rfl, (fun k hk => by cases hk), List.nodup_nil, (fun m hm => by cases hm), (fun m hm => by cases hm)⟩
  · rw [hO]
    obtain ⟨i, rfl, h0, h1⟩ := keys_at hk
    have : i = 0 ∨ i = 1 ∨ i = 2 ∨ i = 3 := by omega
    rcases this with rfl | rfl | rfl | rfl
    · exact ⟨_, rfl, one_new _ _ _⟩
    · exact ⟨_, rfl, one_new _ _ _⟩
    · exact ⟨_, rfl, one_new _ _ _⟩
    · exact ⟨_, rfl, one_new _ _ _⟩
  · rw [hO] at hk
    by_cases m : k ∈ keysA
    · exact m
    · rw [lkt_none.2 (show k ∉ (issO tA sale16b vs [] 4).map (·.1) from hK ▸ m)] at hk; cases hk
theorem run_ok {acts : List Act16} (ok : ∀ x ∈ acts, ActOk x) : ∀ i ≤ acts.length, InvP (runH startH acts i) ∧ (runH startH acts i).down.length ≤ i ∧ (runH startH acts i).up.length ≤ i
  | 0, _ => ⟨start_ok, Nat.le_refl _, Nat.le_refl _⟩
  | i + 1, hi => by
    obtain ⟨h1, h2, h3⟩ := run_ok ok i (by omega)
    have hx : acts.getD i act0 ∈ acts := List.mem_of_getElem? (getD_some (by omega) act0)
    have ha := atOf_in (ok _ hx)
    have hs := step_ok h1 (d := (acts.getD i act0).d) ha.1 ha.2
    exact ⟨hs.1, Nat.le_trans hs.2.2.1 (by omega), Nat.le_trans hs.2.2.2 (by omega)⟩
theorem cntM_eq (kind : Int) (k : Kid) (n : Int) {l : List MsV} (hn : ∀ m ∈ l, m.kind = kind → m.key = k → m.k.n = n) : ∀ i ≤ l.length, cntM kind k n l i = nM kind k (l.take i)
  | 0, _ => by rw [List.take_zero]; rfl
  | i + 1, hi => by
    have hg := getD_some (l := l) (i := i) (by omega) ⟨0, kid0, cpn0, 0, 0⟩
    have hm : l.getD i ⟨0, kid0, cpn0, 0, 0⟩ ∈ l := List.mem_of_getElem? hg
    rw [List.take_add_one, hg]
    show cntM kind k n l i + (bif okM kind k n (l.getD i ⟨0, kid0, cpn0, 0, 0⟩) then 1 else 0) = nM kind k (l.take i ++ [l.getD i ⟨0, kid0, cpn0, 0, 0⟩])
    rw [cntM_eq kind k n hn i (by omega)]
    generalize l.getD i ⟨0, kid0, cpn0, 0, 0⟩ = m at hm
    unfold okM
    rw [kidE_iff]
    by_cases e1 : m.kind = kind
    · by_cases e2 : m.key = k
      · rw [nM_add1 kind k _ ⟨e1, e2⟩, decide_eq_true e1, decide_eq_true e2, decide_eq_true (hn m hm e1 e2)]; rfl
      · rw [nM_add kind k _ (fun e => e2 e.2), decide_eq_true e1, decide_eq_false e2]; rfl
    · rw [nM_add kind k _ (fun e => e1 e.1), decide_eq_false e1]; rfl
theorem InvP.one1 {σ : HSt} (h : InvP σ) {k : Kid} (hk : k ∈ keysA) : controlsN σ.a σ.b k σ.down σ.up = 1 := by
  obtain ⟨o, ho, hp⟩ := h.one k hk
  have hd := cntM_eq 2 k o.k.n hp.dn σ.down.length (Nat.le_refl _)
  have hu := cntM_eq 5 k o.k.n hp.upn σ.up.length (Nat.le_refl _)
  rw [List.take_length] at hd hu
  have h1 : ctl1 σ.b k = if ((lkt σ.b.helds k).getD held0).here = true then 1 else 0 := by
    unfold ctl1
    cases lkt σ.b.helds k with
    | none => rfl
    | some x => show (bif true && x.here then 1 else 0) = if x.here = true then 1 else 0; cases x.here <;> rfl
  unfold controlsN
  rw [h1]
  unfold ctl0
  rw [ho]
  show (bif true && !o.away then 1 else 0) + _ + cntM 2 k o.k.n σ.down σ.down.length + cntM 5 k o.k.n σ.up σ.up.length = 1
  rw [hd, hu]
  rcases Bool.eq_false_or_eq_true o.away with e | e
  · have hg := hp.gone e
    rw [e]
    show 0 + _ + _ + _ = 1
    omega
  · have hg := hp.stay e
    rw [e, hg.1, hg.2.1, hg.2.2]; rfl
theorem inv_all {acts : List Act16} (ok : ∀ x ∈ acts, ActOk x) : ∀ i ≤ acts.length, (∀ d j, 0 ≤ j → j ≤ 4 → GoodH (runH startH acts i) d j) ∧ (∀ k ∈ keysA, 0 < i → controlsN (runH startH acts i).a (runH startH acts i).b k (runH startH acts i).down (runH startH acts i).up = 1) ∧ (runH startH acts i).down.length ≤ i ∧ (runH startH acts i).up.length ≤ i ∧ (∀ m ∈ (runH startH acts i).down ++ (runH startH acts i).up, KidOk m.key ∧ 0 ≤ m.kind ∧ m.kind ≤ 255) := fun i hi => by
  obtain ⟨h1, h2, h3⟩ := run_ok ok i hi
  refine ⟨fun d j a b => (step_ok h1 a b).2.1, fun k hk _ => h1.one1 hk, h2, h3, fun m hm => ?_⟩
  have kk : m.key ∈ keysA → KidOk m.key := fun q => by
    obtain ⟨i, hi, a, b⟩ := keys_at q
    rw [hi]; exact keyA_ok a (by omega)
  rcases List.mem_append.1 hm with q | q
  · have := h1.dk m q
    exact ⟨kk this.1, by omega, by omega⟩
  · have := h1.uk m q
    exact ⟨kk this.1, by omega, by omega⟩
end Go.Proofs.Ytjeppnhkgiljpaa
end
section
namespace Go.Proofs.Ytjeppnhkgiljpaa
open Go.RowKit Go.Lib Go.Tk

structure Msg where
  k : Int
  tc : Int
  tr : Int
  ix : Int
  lc : Int
  lf : Int
  lx : Int
  v : Int
  st : Int
  nn : Int
  amt : Int
  cd : Int
deriving DecidableEq, Inhabited
def encMsg (m : Msg) : List Value := [.int .u8 m.k, .int .u8 m.tc, .int .u64 m.tr, .int .u8 m.ix, .int .u8 m.lc, .int .u16 m.lf, .int .u32 m.lx, .int .i64 m.v, .int .u8 m.st, .int .u32 m.nn, .int .i64 m.amt, .int .i64 m.cd]
def msgAgg (m : Msg) : Value := .agg #[.int .u8 m.k, .int .u8 m.tc, .int .u64 m.tr, .int .u8 m.ix, .int .u8 m.lc, .int .u16 m.lf, .int .u32 m.lx, .int .i64 m.v, .int .u8 m.st, .int .u32 m.nn, .int .i64 m.amt, .int .i64 m.cd]
theorem encMsg_len (m : Msg) : (encMsg m).length = 12 := rfl
theorem encMsg_one (m : Msg) : ∀ v ∈ encMsg m, v.oneCell' = true := by simp [encMsg, Value.oneCell']

structure BoxV where
  wait : List Msg
  given : Int
  last : Int
structure PostV where
  self : Int
  n : Int
  box : Nat → BoxV
def PostV.other (P : PostV) (c : Int) : Bool := decide (0 ≤ c) && decide (c < P.n) && !decide (c = P.self)
def PostV.put (P : PostV) (c : Nat) (X : BoxV) : PostV := { P with box := fun i => if i = c then X else P.box i }
/-- the carriers that have a box -/
def PostV.cs (P : PostV) : List Nat := (List.range P.n.toNat).filter fun c => P.other c
structure BoxOk (X : BoxV) : Prop where
  len : X.wait.length ≤ 32
  le : (X.wait.length : Int) ≤ X.given
  hi : X.given ≤ 4294967296
  l0 : 0 ≤ X.last
  l1 : X.last ≤ 18446744073709551615
structure PostOk (P : PostV) : Prop where
  n0 : 2 ≤ P.n
  n1 : P.n ≤ 8
  s0 : 0 ≤ P.self
  s1 : P.self < P.n
  box : ∀ c, BoxOk (P.box c)

def newE (self n : Int) : Int := if n < 2 ∨ 8 < n ∨ n ≤ self then 1 else 0
def newP (self n : Int) : PostV := ⟨self, n, fun _ => ⟨[], 0, 0⟩⟩

def pushX (X : BoxV) (m : Msg) : Int × BoxV := if 32 ≤ X.wait.length then (3, X) else (0, ⟨X.wait ++ [m], X.given + 1, X.last⟩)
def doneX (X : BoxV) : Int := X.given - X.wait.length
def ackX (X : BoxV) (number : Int) : Int × BoxV :=
  if X.given < number then (1, X) else if number ≤ doneX X then (6, X) else (0, ⟨X.wait.drop (number - doneX X).toNat, X.given, X.last⟩)
def tookX (X : BoxV) (number : Int) : Int × BoxV := if number = 0 ∨ number - 1 ≠ X.last then (6, X) else (0, ⟨X.wait, X.given, number⟩)
def doP (f : BoxV → Int × BoxV) (P : PostV) (c : Int) : Int × PostV := if P.other c then ((f (P.box c.toNat)).1, P.put c.toNat (f (P.box c.toNat)).2) else (1, P)
theorem PostV.put_same {P : PostV} {c : Nat} : P.put c (P.box c) = P := by
  unfold PostV.put
  cases P
  simp only [PostV.mk.injEq, true_and]
  funext i
  split
  · rename_i h; rw [h]
  · rfl
theorem PostV.put_other {P : PostV} {c : Nat} {X : BoxV} {d : Int} : (P.put c X).other d = P.other d := rfl
theorem PostV.put_cs {P : PostV} {c : Nat} {X : BoxV} : (P.put c X).cs = P.cs := rfl
theorem mem_cs {P : PostV} {c : Nat} : c ∈ P.cs ↔ P.other c = true := by
  unfold PostV.cs
  rw [List.mem_filter, List.mem_range]
  constructor
  · exact fun h => h.2
  · intro h
    refine ⟨?_, h⟩
    simp only [PostV.other, Bool.and_eq_true, decide_eq_true_eq] at h
    omega
theorem cs_nodup (P : PostV) : P.cs.Nodup := List.nodup_range.sublist List.filter_sublist
theorem pushX_ok {X : BoxV} {m : Msg} (h : BoxOk X) (hg : X.given < 4294967296) : BoxOk (pushX X m).2 := by
  unfold pushX
  split
  · exact h
  · have := h.len; have := h.le
    exact ⟨by simp; omega, by simp; omega, by show X.given + 1 ≤ _; omega, h.l0, h.l1⟩
theorem ackX_ok {X : BoxV} {k : Int} (h : BoxOk X) : BoxOk (ackX X k).2 := by
  unfold ackX
  split
  · exact h
  · split
    · exact h
    · have := h.len; have := h.le
      exact ⟨by simp; omega, by simp; omega, h.hi, h.l0, h.l1⟩
theorem tookX_ok {X : BoxV} {k : Int} (h : BoxOk X) (h0 : 0 ≤ k) (h1 : k ≤ 18446744073709551615) : BoxOk (tookX X k).2 := by
  unfold tookX
  split
  · exact h
  · exact ⟨h.len, h.le, h.hi, h0, h1⟩
theorem put_ok {P : PostV} (h : PostOk P) {c : Nat} {X : BoxV} (hx : BoxOk X) : PostOk (P.put c X) :=
  ⟨h.n0, h.n1, h.s0, h.s1, fun i => by
    show BoxOk (if i = c then X else P.box i)
    split
    · exact hx
    · exact h.box i⟩
end Go.Proofs.Ytjeppnhkgiljpaa
end
section
namespace Go.Tk
set_option linter.unusedVariables false
set_option linter.unusedSimpArgs false
open Go.RowKit Go.Lib Go.WideShapes

variable {H : Type} {enc : TypeId × Value → H} {P : Program} {w : World} {base : Nat} {spare : Nat → Bool} {held : Bool}

/-- the types of a type's cells, in order -/
def flatF (P : Program) (rec : TypeId → Option (List TypeId)) (stop : Nat) : List Field → Nat → Option (List TypeId)
  | [], o => if o = stop then some [] else none
  | fd :: fs, o => if fd.offset = o then (rec fd.type).bind fun ks => (flatF P rec stop fs (o + P.cellsOf fd.type)).map fun r => ks ++ r else none
def flatT (P : Program) : Nat → TypeId → Option (List TypeId)
  | 0, _ => none
  | f + 1, t => match P.underlying t with
    | some (.struct fs) => flatF P (flatT P f) (P.cellsOf t) fs.toList 0
    | some (.array _ _) => none
    | some (.tuple _) => none
    | _ => if P.cellsOf t = 1 then some [t] else none

def FlatAs (enc : TypeId × Value → H) (P : Program) (w : World) (base : Nat) (spare : Nat → Bool) (held : Bool) : List TypeId → List Value → Prop
  | [], cs => cs = []
  | t :: ts, cs => ∃ v cs', cs = v :: cs' ∧ (∃ n y, DataW.trod enc P w base spare held n t [v] = some y) ∧ FlatAs enc P w base spare held ts cs'
theorem FlatAs.append : ∀ {ts us : List TypeId} {cs ds : List Value}, FlatAs enc P w base spare held ts cs → FlatAs enc P w base spare held us ds → FlatAs enc P w base spare held (ts ++ us) (cs ++ ds)
  | [], _, _, _, h, k => by cases h; exact k
  | _ :: _, _, _, _, ⟨v, cs', e, hv, h⟩, k => by subst e; exact ⟨v, _, rfl, hv, h.append k⟩

theorem flat_fields {rec : TypeId → Option (List TypeId)} {n : Nat} (cs : List Value)
    (ih : ∀ t ts, rec t = some ts → ∀ cs y, DataW.trod enc P w base spare held n t cs = some y → cs.length = P.cellsOf t → FlatAs enc P w base spare held ts cs) :
    ∀ (fs : List Field) (o : Nat) (ts : List TypeId), flatF P rec cs.length fs o = some ts → o ≤ cs.length →
      (∀ fd ∈ fs, ∃ y, DataW.trod enc P w base spare held n fd.type ((cs.drop fd.offset).take (P.cellsOf fd.type)) = some y ∧ fd.offset + P.cellsOf fd.type ≤ cs.length) → FlatAs enc P w base spare held ts (cs.drop o)
  | [], o, ts, h, ho, _ => by
    unfold flatF at h
    split at h
    · cases h; rename_i e; rw [e, List.drop_length]; rfl
    · cases h
  | fd :: fs, o, ts, h, ho, hf => by
    unfold flatF at h
    split at h
    case isFalse => cases h
    rename_i e
    cases hk : rec fd.type with
    | none => rw [hk] at h; cases h
    | some ks =>
      rw [hk] at h
      cases hr : flatF P rec cs.length fs (o + P.cellsOf fd.type) with
      | none => rw [hr] at h; cases h
      | some r =>
        rw [hr] at h
        cases h
        obtain ⟨y, hy, hle⟩ := hf fd List.mem_cons_self
        rw [e] at hy hle
        have h1 := ih fd.type ks hk _ y hy (by rw [List.length_take, List.length_drop]; omega)
        have h2 := flat_fields cs ih fs _ r hr hle (fun fd' hm => hf fd' (List.mem_cons_of_mem _ hm))
        have : cs.drop o = (cs.drop o).take (P.cellsOf fd.type) ++ cs.drop (o + P.cellsOf fd.type) := by
          rw [← List.drop_drop, List.take_append_drop]
        rw [this]
        exact h1.append h2

theorem flatF_room {rec : TypeId → Option (List TypeId)} {stop : Nat} : ∀ (fs : List Field) (o : Nat) (ts : List TypeId), flatF P rec stop fs o = some ts → o ≤ stop ∧ ∀ fd ∈ fs, fd.offset + P.cellsOf fd.type ≤ stop
  | [], o, ts, h => by
    unfold flatF at h
    split at h
    · rename_i e; exact ⟨by omega, by simp⟩
    · cases h
  | fd :: fs, o, ts, h => by
    unfold flatF at h
    split at h
    case isFalse => cases h
    rename_i e
    cases hk : rec fd.type with
    | none => rw [hk] at h; cases h
    | some ks =>
      rw [hk] at h
      cases hr : flatF P rec stop fs (o + P.cellsOf fd.type) with
      | none => rw [hr] at h; cases h
      | some r =>
        obtain ⟨h1, h2⟩ := flatF_room fs _ r hr
        refine ⟨by omega, fun f hf => ?_⟩
        rcases List.mem_cons.1 hf with rfl | hf
        · omega
        · exact h2 f hf

theorem flat_of : ∀ (f : Nat) (t : TypeId) (ts : List TypeId), flatT P f t = some ts → ∀ (n : Nat) (cs : List Value) y, DataW.trod enc P w base spare held n t cs = some y → cs.length = P.cellsOf t → FlatAs enc P w base spare held ts cs
  | 0, t, ts, h => by cases h
  | f + 1, t, ts, h => by
    intro n cs y hy hl
    unfold flatT at h
    split at h
    · rename_i fs hu
      obtain ⟨h1, m, h2⟩ := struct_fields hu hy
      obtain ⟨r1, r2⟩ := flatF_room fs.toList 0 ts h
      rw [← hl] at h r2
      have := flat_fields (n := m) cs (fun t' ts' ht cs' y' hy' hl' => flat_of f t' ts' ht m cs' y' hy' hl') fs.toList 0 ts h (Nat.zero_le _) (fun fd hm => by obtain ⟨y, hy⟩ := h2 fd hm; exact ⟨y, hy, r2 fd hm⟩)
      simpa using this
    · cases h
    · cases h
    · split at h
      · rename_i hc
        cases h
        rw [hc] at hl
        match cs, hl with
        | [v], _ => exact ⟨v, [], rfl, ⟨n, y, hy⟩, rfl⟩
      · cases h

/-- a value of struct type that came in, leaf by leaf -/
theorem flat_open {t : TypeId} {fs : Array Field} {r : Reach} {b0 : Nat} {v : Value} {d : DataW H} {p : List MemPlace} (f : Nat) {ts : List TypeId} (hs : P.underlying t = some (.struct fs)) (ht : flatT P f t = some ts) (hv : Value.okWide P w r b0 t v) (h : DataW.Trod enc P w base spare held t v d p) :
    ∃ cs : List Value, v = .agg cs.toArray ∧ FlatAs enc P w base spare held ts cs := by
  obtain ⟨cs, rfl, hsz⟩ := okWide_struct hs hv
  obtain ⟨fuel, hf⟩ := h
  exact ⟨cs.toList, by simp, flat_of f t ts ht fuel _ _ hf (by simpa using hsz)⟩

/-- whole numbers alone -/
def FlatI : List IntKind → List Value → Prop
  | [], cs => cs = []
  | k :: ks, cs => ∃ z cs', cs = .int k z :: cs' ∧ (Lit.int k z).wf = true ∧ FlatI ks cs'
theorem FlatAs.ints : ∀ {ts : List TypeId} {ks : List IntKind} {cs : List Value}, ts.map P.underlying = ks.map (fun k => some (.int k)) → FlatAs enc P w base spare held ts cs → FlatI ks cs
  | [], [], _, _, h => h
  | [], _ :: _, _, e, _ => by simp at e
  | _ :: _, [], _, e, _ => by simp at e
  | t :: ts, k :: ks, cs, e, ⟨v, cs', e2, ⟨n, y, hy⟩, h⟩ => by
    subst e2
    simp only [List.map_cons, List.cons.injEq] at e
    obtain ⟨z, hz, hw⟩ := int_cell e.1 hy
    cases hz
    exact ⟨z, cs', rfl, hw, FlatAs.ints e.2 h⟩
end Go.Tk
end
section
namespace Go.Proofs.Ytjeppnhkgiljpaa
open Go.RowKit Go.Lib Go.Tk Go.Shelf

theorem box_part {w : World} {b off n : Nat} {vs : Array Value} (h : Box w b vs) (part : Array Value) (hn : part.size = n) (hp : ∀ j v, part[j]? = some v → vs[off + j]? = some v) :
    Sem.run Try.prog (loadCellsFrom ⟨b, off, none⟩ 0 n #[]) w = .ok part w := by
  have := run_loadCellsFrom_list Try.prog w (Addr.mk b off none) part.toList n (by simpa using hn) (fun j v hj => by
    have : (Addr.mk b off none).add j = ⟨b, off + j, none⟩ := by
      unfold Addr.add
      split
      · rename_i e; subst e; rfl
      · simp
    rw [this]
    exact h.cell _ (hp j v (by simpa using hj)))
  simpa using this
theorem box_whole {w : World} {b n : Nat} {vs : Array Value} (h : Box w b vs) (hn : vs.size = n) : Sem.run Try.prog (loadCellsFrom ⟨b, 0, none⟩ 0 n #[]) w = .ok vs w :=
  box_part h vs hn (fun j v hj => by simpa using hj)
end Go.Proofs.Ytjeppnhkgiljpaa
end
section
namespace Go.Proofs.Ytjeppnhkgiljpaa
open Go.RowKit Go.Lib Go.Tk Go.WideShapes

structure PAct where
  dO : Int
  who : Int
  num : Int
  m : Msg
deriving DecidableEq, Inhabited
def encAct (x : PAct) : List Value := [.int .i64 x.dO, .int .u8 x.who, .int .u64 x.num] ++ encMsg x.m
theorem encAct_len (x : PAct) : (encAct x).length = 15 := rfl
theorem encAct_one (x : PAct) : ∀ v ∈ encAct x, v.oneCell' = true := by simp [encAct, encMsg, Value.oneCell']
structure MsgOk (m : Msg) : Prop where
  k : 0 ≤ m.k ∧ m.k ≤ 255
  tc : 0 ≤ m.tc ∧ m.tc ≤ 255
  tr : 0 ≤ m.tr ∧ m.tr ≤ 18446744073709551615
  ix : 0 ≤ m.ix ∧ m.ix ≤ 255
  lc : 0 ≤ m.lc ∧ m.lc ≤ 255
  lf : 0 ≤ m.lf ∧ m.lf ≤ 65535
  lx : 0 ≤ m.lx ∧ m.lx ≤ 4294967295
  v : -9223372036854775808 ≤ m.v ∧ m.v ≤ 9223372036854775807
  st : 0 ≤ m.st ∧ m.st ≤ 255
  nn : 0 ≤ m.nn ∧ m.nn ≤ 4294967295
  amt : -9223372036854775808 ≤ m.amt ∧ m.amt ≤ 9223372036854775807
  cd : -9223372036854775808 ≤ m.cd ∧ m.cd ≤ 9223372036854775807
structure PActOk (x : PAct) : Prop where
  dO : -9223372036854775808 ≤ x.dO ∧ x.dO ≤ 9223372036854775807
  who : 0 ≤ x.who ∧ x.who ≤ 255
  num : 0 ≤ x.num ∧ x.num ≤ 18446744073709551615
  m : MsgOk x.m
theorem wfi64' {a : Int} (h : (Lit.int .i64 a).wf = true) : -9223372036854775808 ≤ a ∧ a ≤ 9223372036854775807 := by
  simpa [Lit.wf, IntKind.min, IntKind.max, IntKind.signed, IntKind.bits] using h
theorem wfu8' {a : Int} (h : (Lit.int .u8 a).wf = true) : 0 ≤ a ∧ a ≤ 255 := by
  simpa [Lit.wf, IntKind.min, IntKind.max, IntKind.signed, IntKind.bits] using h
theorem wfu16' {a : Int} (h : (Lit.int .u16 a).wf = true) : 0 ≤ a ∧ a ≤ 65535 := by
  simpa [Lit.wf, IntKind.min, IntKind.max, IntKind.signed, IntKind.bits] using h
theorem wfu32' {a : Int} (h : (Lit.int .u32 a).wf = true) : 0 ≤ a ∧ a ≤ 4294967295 := by
  simpa [Lit.wf, IntKind.min, IntKind.max, IntKind.signed, IntKind.bits] using h
theorem wfu64' {a : Int} (h : (Lit.int .u64 a).wf = true) : 0 ≤ a ∧ a ≤ 18446744073709551615 := by
  simpa [Lit.wf, IntKind.min, IntKind.max, IntKind.signed, IntKind.bits] using h

variable {H : Type} {enc : TypeId × Value → H} {w : World} {base : Nat} {spare : Nat → Bool} {held : Bool}

theorem act_of {cs : List Value} (h : FlatI [.i64, .u8, .u64, .u8, .u8, .u64, .u8, .u8, .u16, .u32, .i64, .u8, .u32, .i64, .i64] cs) : ∃ x : PAct, encAct x = cs ∧ PActOk x := by
  obtain ⟨z0, _, rfl, w0, z1, _, rfl, w1, z2, _, rfl, w2, z3, _, rfl, w3, z4, _, rfl, w4, z5, _, rfl, w5, z6, _, rfl, w6, z7, _, rfl, w7, z8, _, rfl, w8, z9, _, rfl, w9, z10, _, rfl, w10, z11, _, rfl, w11, z12, _, rfl, w12, z13, _, rfl, w13, z14, _, rfl, w14, rfl⟩ := h
  exact ⟨⟨z0, z1, z2, ⟨z3, z4, z5, z6, z7, z8, z9, z10, z11, z12, z13, z14⟩⟩, rfl, wfi64' w0, wfu8' w1, wfu64' w2, wfu8' w3, wfu8' w4, wfu64' w5, wfu8' w6, wfu8' w7, wfu16' w8, wfu32' w9, wfi64' w10, wfu8' w11, wfu32' w12, wfi64' w13, wfi64' w14⟩
def actTs : List TypeId := [3, 5, 22, 5, 5, 22, 5, 5, 44, 45, 2, 48, 45, 2, 31]
theorem actTs_ints : actTs.map Try.prog.underlying = [IntKind.i64, .u8, .u64, .u8, .u8, .u64, .u8, .u8, .u16, .u32, .i64, .u8, .u32, .i64, .i64].map (fun k => some (.int k)) := by kernel_rfl
end Go.Proofs.Ytjeppnhkgiljpaa
end
section
namespace Go.Proofs.Ytjeppnhkgiljpaa
set_option maxRecDepth 100000
open Go.RowKit Go.Lib Go.Tk Go.Shelf Go.Vc Go.Sx Go.WideShapes
set_option linter.unusedVariables false
set_option linter.unusedSimpArgs false

section
variable {H : Type} {enc : TypeId × Value → H} {w : World} {base : Nat} {spare : Nat → Bool} {held : Bool}
theorem act16_of {cs : List Value} (h : FlatI [.i64, .u8, .u64, .u8, .u8, .u8, .u8, .u64, .u8, .u8, .u16, .u32, .i64, .u8, .u32, .i64, .i64] cs) : ∃ x : Act16, act16L x = cs ∧ ActOk x := by
  obtain ⟨z0, _, rfl, w0, z1, _, rfl, w1, z2, _, rfl, w2, z3, _, rfl, w3, z4, _, rfl, w4, z5, _, rfl, w5, z6, _, rfl, w6, z7, _, rfl, w7, z8, _, rfl, w8, z9, _, rfl, w9, z10, _, rfl, w10, z11, _, rfl, w11, z12, _, rfl, w12, z13, _, rfl, w13, z14, _, rfl, w14, z15, _, rfl, w15, z16, _, rfl, w16, rfl⟩ := h
  exact ⟨⟨z0, ⟨⟨z1, z2⟩, z3⟩, z4, ⟨z5, ⟨⟨z6, z7⟩, z8⟩, ⟨⟨z9, z10, z11⟩, z12, z13, z14⟩, z15, z16⟩⟩, rfl, ⟨wfu8' w3⟩⟩
def act16Ts : List TypeId := [3, 5, 22, 5, 5, 5, 5, 22, 5, 5, 44, 45, 2, 48, 45, 2, 31]
theorem act16Ts_flat : flatT Try.prog 6 54 = some act16Ts := by kernel_rfl
theorem act16Ts_ints : act16Ts.map Try.prog.underlying = [IntKind.i64, .u8, .u64, .u8, .u8, .u8, .u8, .u64, .u8, .u8, .u16, .u32, .i64, .u8, .u32, .i64, .i64].map (fun k => some (.int k)) := by kernel_rfl
theorem open_act16 {r : Reach} {b0 : Nat} {v : Value} {d : DataW H} {p : List MemPlace} (hv : Value.okWide Try.prog w r b0 54 v) (h : DataW.Trod enc Try.prog w base spare held 54 v d p) :
    ∃ x : Act16, v = .agg (act16L x).toArray ∧ ActOk x := by
  obtain ⟨cs, rfl, hf⟩ := flat_open 6 Try.underlying54 act16Ts_flat hv h
  obtain ⟨x, rfl, ok⟩ := act16_of (hf.ints act16Ts_ints)
  exact ⟨x, rfl, ok⟩
theorem acts16_cell {n : Nat} {v : Value} {y : DataW H × List MemPlace} (h : DataW.trod enc Try.prog w base spare held n 60 [v] = some y) :
    ∃ (a : Option Addr) (l : List Act16) (c : Nat), v = .slice a l.length c ∧ Row w a (cellsL act16L l) ∧ (a = none → c = 0) ∧ l.length ≤ maxLen ∧ ∀ x ∈ l, ActOk x := by
  obtain ⟨a, len, cap, rows, rfl, hlen, hrows, hr, hn, hm, _⟩ := slice_rows (fun cs => ∃ l : Act16, act16L l = cs ∧ ActOk l) Try.underlying60 (show Try.prog.cellsOf 54 = 17 by kernel_rfl) (by decide)
    (fun n cs y hl h => act16_of ((flat_of 6 _ _ act16Ts_flat n cs y h (by rw [hl]; kernel_rfl)).ints act16Ts_ints)) h
  obtain ⟨l, hl⟩ := listOf (enc := fun x : { x : Act16 // ActOk x } => act16L x.1) (Q := fun cs => ∃ l : Act16, act16L l = cs ∧ ActOk l) (fun r ⟨x, hx, hk⟩ => ⟨⟨x, hk⟩, hx⟩) rows (fun r hr => (hrows r hr).2)
  have hl2 : (l.map (·.1)).map act16L = rows := by rw [List.map_map]; exact hl
  have hl3 : (l.map (·.1)).length = len := by rw [← hlen, ← hl2]; simp
  refine ⟨a, l.map (·.1), cap, by rw [hl3], ?_, hn, by rw [hl3]; exact hm, fun x hx => ?_⟩
  · unfold cellsL; rw [hl2]; exact hr
  · obtain ⟨z, _, rfl⟩ := List.mem_map.1 hx; exact z.2
end
theorem one_any (a : Option Addr) (l : List Act16) (cap : Nat) (w : World) (hr : Row w a (cellsL act16L l)) (hn : a = none → cap = 0) (hl : l.length ≤ maxLen) (ok : ∀ x ∈ l, ActOk x) :
    Calls Try.prog OneF #[.slice a l.length cap] w fun e w' => e = .returned (.bool true) ∧ Below w.heap.size w w' :=
  (one_w (fun _ _ => oldC w) (a := a) (n := l.length) (cap := cap) (acts := l) (fun _ _ => rd_old hr) rfl hl ok wakes16_w (fun _ => inv_all ok) (fun _ _ => (0, undef)) [] w (Mem.old w)).mono fun e w' ⟨x, h, hm⟩ => ⟨h, (show Mem (oldC w :: []) w' from hm).below 0 rfl⟩
end Go.Proofs.Ytjeppnhkgiljpaa
end
section
namespace Go.Proofs.Ytjeppnhkgiljpaa
set_option maxRecDepth 100000
open Go.RowKit Go.Lib Go.Tk Go.Shelf Go.Vc Go.Sx
set_option linter.unusedVariables false
set_option linter.unusedSimpArgs false

def nilP : SV := .val (.pointer none)
theorem foundO_nil (k : Kid) : CallOK Try.prog FoundO [nilP, .fn (.func BownsF) [] [], .agg (kidS k)] [] [] (.tup [.agg (ownS own0), eN 8]) [] := callOK_run 400 [] (by kernel_rfl) (by kernel_rfl)
theorem foundH_nil (k : Kid) : CallOK Try.prog FoundH [nilP, .fn (.func BheldsF) [] [], .agg (kidS k)] [] [] (.tup [.agg (heldS held0), eN 8]) [] := callOK_run 400 [] (by kernel_rfl) (by kernel_rfl)
theorem own_nil (k : Kid) : CallOK Try.prog OwnF [nilP, .agg (kidS k)] [] [] (.tup [.agg (ownS own0), eN 8]) [] := by
  have c1 := foundO_nil k
  exact callOK_run 400 [hC 1 2 c1] (by kernel_rfl) (by kernel_rfl)
theorem held_nil (k : Kid) : CallOK Try.prog HeldF [nilP, .agg (kidS k)] [] [] (.tup [.agg (heldS held0), eN 8]) [] := by
  have c1 := foundH_nil k
  exact callOK_run 400 [hC 1 2 c1] (by kernel_rfl) (by kernel_rfl)
theorem want_nil (k : Kid) : CallOK Try.prog WantF [nilP, .agg (kidS k)] [] [] (.tup [nilS, eN 8]) [] := callOK_run 400 [] (by kernel_rfl) (by kernel_rfl)
theorem return_nil (k : Kid) : CallOK Try.prog ReturnF [nilP, .agg (kidS k)] [] [] (.tup [nilS, eN 8]) [] := by
  have c1 := held_nil k
  exact callOK_run 400 [hC 1 2 c1] (by kernel_rfl) (by kernel_rfl)
theorem recall_nil (k : Kid) : CallOK Try.prog RecallF [nilP, .agg (kidS k)] [] [] (.tup [nilS, eN 8]) [] := by
  have c1 := own_nil k
  exact callOK_run 400 [hC 1 2 c1] (by kernel_rfl) (by kernel_rfl)
theorem hear_nil (c : Int) (m : MsV) : CallOK Try.prog HearF [nilP, .val (.int .u8 c), .agg (msS m)] [] [] (.tup [nilS, eN 8]) [] := callOK_run 400 [] (by kernel_rfl) (by kernel_rfl)
def Nil16F : Nat := 4
theorem nil16_w (x : Act16) : CallOK Try.prog Nil16F [.agg (act16S x)] [] [] (.val (.bool true)) [] := by
  have c1 := want_nil x.k
  have c2 := return_nil x.k
  have c3 := recall_nil x.k
  have c4 := hear_nil x.frm x.m
  have c5 := wakes16_w
  exact callOK_run 400 [hC 1 2 c1, hC 2 2 c2, hC 3 2 c3, hC 4 4 c4, hC 5 29 c5] (by kernel_rfl) (by kernel_rfl)
theorem act16_dens (ε : Env) (x : Act16) : SV.dens ε (act16S x) = act16L x := rfl
theorem nil16_any (x : Act16) (w : World) (ok : ActOk x) :
    Calls Try.prog Nil16F #[.agg (act16L x).toArray] w fun e w' => e = .returned (.bool true) ∧ Below w.heap.size w w' :=
  (nil16_w x (fun _ _ => (0, undef)) [oldC w] w (Mem.old w)).mono fun e w' ⟨x, h, hm⟩ => ⟨h, (show Mem (oldC w :: []) w' from hm).below 0 rfl⟩
end Go.Proofs.Ytjeppnhkgiljpaa
end
