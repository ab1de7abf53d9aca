/- BiP1, Vals, BiP2, Bi4. -/
import Derived.Test.YtlamaakconjkcaaM7d2645b
import Derived.Test.YtlamaakconjkcaaM551c3f3
import Derived.Test.YtlamaakconjkcaaM33c0a00
section
namespace Go.Proofs.Ytlamaakconjkcaa
set_option maxRecDepth 100000
open Go.RowKit Go.Lib Go.Tk Go.Shelf Go.Vc Go.Sx
set_option linter.unusedVariables false
set_option linter.unusedSimpArgs false

def kB : Kid := keyA 1
/-- two books, what is under way, how many bills were accepted -/
structure BSt where
  a : BookV
  b : BookV
  down : List MsV
  up : List MsV
  acc : Nat
/-- how many of these are Accepts -/
def nAcc : List OutV → Nat
  | [] => 0
  | x :: l => (if x.m.kind = 7 then 1 else 0) + nAcc l
def stepB (σ : BSt) (d cmd amt : Int) : BSt :=
  if d = 0 then { σ with b := (useQ σ.b kB cmd).b, up := σ.up ++ outsM (useQ σ.b kB cmd).out }
  else if d = 1 then { σ with b := (billQ σ.b kB amt).b, up := σ.up ++ outsM (billQ σ.b kB amt).out }
  else if d = 2 then match σ.down with
    | [] => σ
    | m :: l => { σ with b := (hearBQ σ.b 0 m).b, down := l, up := σ.up ++ outsM (hearBQ σ.b 0 m).out }
  else match σ.up with
    | [] => σ
    | m :: l => { σ with a := (hearBQ σ.a 1 m).b, up := l, down := σ.down ++ outsM (hearBQ σ.a 1 m).out, acc := σ.acc + nAcc (hearBQ σ.a 1 m).out }
def outB (σ : BSt) (d cmd amt : Int) : List OutV :=
  if d = 0 then (useQ σ.b kB cmd).out else if d = 1 then (billQ σ.b kB amt).out
  else if d = 2 then match σ.down with
    | [] => []
    | m :: l => (hearBQ σ.b 0 m).out
  else match σ.up with
    | [] => []
    | m :: l => (hearBQ σ.a 1 m).out
def eB (σ : BSt) (d : Int) : Int :=
  if d = 0 then 0 else if d = 1 then 0
  else if d = 2 then match σ.down with
    | [] => 0
    | m :: l => (hearBQ σ.b 0 m).e
  else match σ.up with
    | [] => 0
    | m :: l => (hearBQ σ.a 1 m).e
def toB (d : Int) : Int := if d = 0 then 0 else if d = 1 then 0 else if d = 2 then 0 else 1
/-- how the coupon stands at both, and under way -/
structure InvB (o : OwnV) (h : HeldV) (D U : List MsV) (acc : Nat) : Prop where
  away : o.away = true
  dst : o.dst = 1
  v : o.k.v = 50
  s : o.k.s = if o.paid = true then 4 else 1
  n : acc = if o.paid = true then 1 else 0
  ps : o.paid = true → h.k.s = 4
  here : h.here = true
  hv : h.k.v = 50
  hs : 1 ≤ h.k.s ∧ h.k.s ≤ 4
  us : U ≠ [] → h.k.s = 4
  pp : h.paid = true → o.paid = true
  dk : ∀ m ∈ D, m.key = kB ∧ (m.kind = 7 ∨ m.kind = 8) ∧ (m.kind = 7 → o.paid = true)
  uk : ∀ m ∈ U, m.key = kB ∧ m.kind = 6
structure InvT (σ : BSt) : Prop where
  one : ∃ o h, lkt σ.a.owns kB = some o ∧ lkt σ.b.helds kB = some h ∧ InvB o h σ.down σ.up σ.acc
  sa : σ.a.self = 0
  na : σ.a.n = 3
  sb : σ.b.self = 1
  nb : σ.b.n = 3
  ob : σ.b.owns = []
theorem setHE_kB {B : BookV} (h1 : B.self = 1) (h2 : B.n = 3) {h : HeldV} (hl : lkt B.helds kB = some h) : B.setHE kB = 0 := by
  have hb : B.badK kB = false := by unfold BookV.badK; rw [h1, h2]; rfl
  unfold BookV.setHE
  rw [hb, hl]; rfl
theorem setH_kB {B : BookV} (h1 : B.self = 1) (h2 : B.n = 3) {h : HeldV} (hl : lkt B.helds kB = some h) (x : HeldV) : B.setH kB x = { B with helds := putt B.helds kB x } := by
  unfold BookV.setH; rw [setHE_kB h1 h2 hl]; rfl
/-- told by none, or by one -/
theorem next_of {s cmd : Int} (hs : 1 ≤ s ∧ s ≤ 4) (hc : cmd = 9 ∨ cmd = 10 ∨ cmd = 11 ∨ cmd = 12) : (nextI s cmd).2 = 0 → (1 ≤ (nextI s cmd).1 ∧ (nextI s cmd).1 ≤ 4) ∧ s ≠ 4 := by
  obtain ⟨h1, h2⟩ := hs
  have : s = 1 ∨ s = 2 ∨ s = 3 ∨ s = 4 := by omega
  rcases this with rfl | rfl | rfl | rfl <;> rcases hc with rfl | rfl | rfl | rfl <;> decide
section
variable {A B : BookV} {D U : List MsV} {acc : Nat}
theorem binv_b (h : InvT ⟨A, B, D, U, acc⟩) {x' : HeldV} {D' U' : List MsV} (h1 : ∀ o x, lkt B.helds kB = some x → InvB o x D U acc → InvB o x' D' U' acc) : InvT ⟨A, B.setH kB x', D', U', acc⟩ := by
  obtain ⟨o, x, ho, hx, hi⟩ := h.one
  rw [show B.setH kB x' = _ from setH_kB h.sb h.nb hx x']
  refine ⟨⟨o, x', ho, ?_, h1 o x hx hi⟩, h.sa, h.na, h.sb, h.nb, h.ob⟩
  show lkt (putt B.helds kB x') kB = some x'
  rw [lkt_put, if_pos rfl]
theorem binv_m (h : InvT ⟨A, B, D, U, acc⟩) {D' U' : List MsV} (h1 : ∀ o x, InvB o x D U acc → InvB o x D' U' acc) : InvT ⟨A, B, D', U', acc⟩ := by
  obtain ⟨o, x, ho, hx, hi⟩ := h.one
  exact ⟨⟨o, x, ho, hx, h1 o x hi⟩, h.sa, h.na, h.sb, h.nb, h.ob⟩
theorem bnil (h : InvT ⟨A, B, D, U, acc⟩) : InvT ⟨A, B, D, U ++ outsM [], acc⟩ := by rw [show outsM [] = [] from rfl, List.append_nil]; exact h
theorem buse_k (h : InvT ⟨A, B, D, U, acc⟩) (cmd : Int) : InvT ⟨A, (useQ B kB cmd).b, D, U ++ outsM (useQ B kB cmd).out, acc⟩ ∧ OutTo (useQ B kB cmd).out 0 := by
  obtain ⟨o, x, ho, hx, hi⟩ := h.one
  have hx : lkt B.helds kB = some x := hx
  have no : ∀ e, useQ B kB cmd = ⟨[], e, B⟩ → InvT ⟨A, (useQ B kB cmd).b, D, U ++ outsM (useQ B kB cmd).out, acc⟩ ∧ OutTo (useQ B kB cmd).out 0 := fun e hw => by rw [hw]; exact ⟨bnil h, .inl rfl⟩
  have hself : decide (kB.t.c = B.self) = false := by rw [show B.self = 1 from h.sb]; rfl
  rcases Bool.eq_false_or_eq_true (useB cmd) with eu | eu
  · have hq : useQ B kB cmd = useHeld B kB cmd := by unfold useQ; rw [eu, hself]; rfl
    rcases Bool.eq_false_or_eq_true (decide ((nextI x.k.s cmd).2 = 0)) with e | e
    · obtain ⟨n1, n2⟩ := next_of hi.hs (use_yes eu) (of_decide_eq_true e)
      have hw : useQ B kB cmd = ⟨bif decide ((nextI x.k.s cmd).1 = 4) then [billO kB x.k.v] else [], 0, B.setH kB (usedH x (nextI x.k.s cmd).1)⟩ := by
        rw [hq]; unfold useHeld; simp only [hx, Option.getD_some, hi.here, e]; rfl
      have hU : U = [] := by
        cases U with
        | nil => rfl
        | cons m l => exact absurd (hi.us (by simp)) n2
      have hP : o.paid = false := by
        rcases Bool.eq_false_or_eq_true o.paid with q | q
        · exact absurd (hi.ps q) n2
        · exact q
      rw [hw]
      rcases Bool.eq_false_or_eq_true (decide ((nextI x.k.s cmd).1 = 4)) with e4 | e4
      · rw [e4]
        refine ⟨binv_b h fun o' x' hx' hi' => ?_, .inr ⟨_, rfl, rfl⟩⟩
        rw [hx] at hx'; cases hx'
        exact ⟨hi'.away, hi'.dst, hi'.v, hi'.s, hi'.n, fun _ => of_decide_eq_true e4, hi'.here, hi'.hv, n1, fun _ => of_decide_eq_true e4, hi'.pp, hi'.dk, mem_add hi'.uk ⟨rfl, rfl⟩⟩
      · rw [e4]
        refine ⟨bnil (binv_b h fun o' x' hx' hi' => ?_), .inl rfl⟩
        rw [hx] at hx'; cases hx'
        exact ⟨hi'.away, hi'.dst, hi'.v, hi'.s, hi'.n, fun q => absurd (hi'.ps q) n2, hi'.here, hi'.hv, n1, fun q => absurd hU q, hi'.pp, hi'.dk, hi'.uk⟩
    · exact no (nextI x.k.s cmd).2 (by rw [hq]; unfold useHeld; simp only [hx, Option.getD_some, hi.here, e]; rfl)
  · exact no 1 (by unfold useQ; rw [eu]; rfl)
theorem bbill_k (h : InvT ⟨A, B, D, U, acc⟩) (amt : Int) : InvT ⟨A, (billQ B kB amt).b, D, U ++ outsM (billQ B kB amt).out, acc⟩ ∧ OutTo (billQ B kB amt).out 0 := by
  obtain ⟨o, x, ho, hx, hi⟩ := h.one
  have hx : lkt B.helds kB = some x := hx
  have no : ∀ e, billQ B kB amt = ⟨[], e, B⟩ → InvT ⟨A, (billQ B kB amt).b, D, U ++ outsM (billQ B kB amt).out, acc⟩ ∧ OutTo (billQ B kB amt).out 0 := fun e hw => by rw [hw]; exact ⟨bnil h, .inl rfl⟩
  rcases Bool.eq_false_or_eq_true (!decide (x.k.s = 4) || (x.paid || x.billed)) with e | e
  · exact no 6 (by unfold billQ; simp only [hx, Option.getD_some, hi.here, e]; rfl)
  · have hs : x.k.s = 4 := by
      rcases Bool.eq_false_or_eq_true (decide (x.k.s = 4)) with q | q
      · exact of_decide_eq_true q
      · rw [q] at e; cases e
    rcases Bool.eq_false_or_eq_true (mayI amt) with e5 | e5
    · have hw : billQ B kB amt = ⟨[billO kB amt], 0, B.setH kB (billedH x)⟩ := by unfold billQ; simp only [hx, Option.getD_some, hi.here, e, e5]; rfl
      rw [hw]
      refine ⟨binv_b h fun o' x' hx' hi' => ?_, .inr ⟨_, rfl, rfl⟩⟩
      rw [hx] at hx'; cases hx'
      exact ⟨hi'.away, hi'.dst, hi'.v, hi'.s, hi'.n, hi'.ps, hi'.here, hi'.hv, hi'.hs, fun _ => hs, hi'.pp, hi'.dk, mem_add hi'.uk ⟨rfl, rfl⟩⟩
    · exact no 7 (by unfold billQ; simp only [hx, Option.getD_some, hi.here, e, e5]; rfl)
theorem bhearD_k {m : MsV} (h : InvT ⟨A, B, m :: D, U, acc⟩) : InvT ⟨A, (hearBQ B 0 m).b, D, U ++ outsM (hearBQ B 0 m).out, acc⟩ ∧ (hearBQ B 0 m).e = 0 ∧ OutTo (hearBQ B 0 m).out 0 := by
  obtain ⟨o, x, ho, hx, hi⟩ := h.one
  have hx : lkt B.helds kB = some x := hx
  obtain ⟨k1, k2, k3⟩ := hi.dk m List.mem_cons_self
  have hbad : badHearB B 0 m.kind = false := by
    unfold badHearB
    rw [show B.self = 1 from h.sb, show B.n = 3 from h.nb]
    rcases k2 with e | e <;> rw [e] <;> rfl
  have hq : hearBQ B 0 m = ⟨[], 0, hansB B 0 m⟩ := by
    unfold hearBQ; rw [hbad]
    rcases k2 with e | e <;> rw [e] <;> rfl
  rw [hq]
  refine ⟨bnil ?_, rfl, .inl rfl⟩
  show InvT ⟨A, hansB B 0 m, D, U, acc⟩
  have hd : isHeld B 0 m.key = true := by unfold isHeld; rw [k1, hx]; rfl
  rcases Bool.eq_false_or_eq_true x.billed with e | e
  · have hw : hansB B 0 m = B.setH kB (ansdH x m.kind) := by unfold hansB; rw [hd, k1, hx]; simp only [Option.getD_some, e]; rfl
    rw [hw]
    refine binv_b h fun o' x' hx' hi' => ?_
    rw [hx] at hx'; cases hx'
    obtain ⟨-, -, k3'⟩ := hi'.dk m List.mem_cons_self
    refine ⟨hi'.away, hi'.dst, hi'.v, hi'.s, hi'.n, hi'.ps, hi'.here, hi'.hv, hi'.hs, hi'.us, fun q => ?_, tail_of hi'.dk, hi'.uk⟩
    have q : (x.paid || decide (m.kind = 7)) = true := q
    rw [Bool.or_eq_true] at q
    exact q.elim hi'.pp (fun q => k3' (of_decide_eq_true q))
  · have hw : hansB B 0 m = B := by unfold hansB; rw [hd, k1, hx]; simp only [Option.getD_some, e]; rfl
    rw [hw]
    exact binv_m h fun o' x' hi' => ⟨hi'.away, hi'.dst, hi'.v, hi'.s, hi'.n, hi'.ps, hi'.here, hi'.hv, hi'.hs, hi'.us, hi'.pp, tail_of hi'.dk, hi'.uk⟩
theorem bhearU_k {m : MsV} (h : InvT ⟨A, B, D, m :: U, acc⟩) : InvT ⟨(hearBQ A 1 m).b, B, D ++ outsM (hearBQ A 1 m).out, U, acc + nAcc (hearBQ A 1 m).out⟩ ∧ (hearBQ A 1 m).e = 0 ∧ OutTo (hearBQ A 1 m).out 1 ∧ (∀ x ∈ (hearBQ A 1 m).out, x.m.kind = 7 → x.m.amt = 50) := by
  obtain ⟨o, x, ho, hx, hi⟩ := h.one
  have ho : lkt A.owns kB = some o := ho
  obtain ⟨k1, k2⟩ := hi.uk m List.mem_cons_self
  have hbad : badHearB A 1 m.kind = false := by
    unfold badHearB
    rw [show A.self = 0 from h.sa, show A.n = 3 from h.na, k2]; rfl
  have hq : hearBQ A 1 m = hbillQ A 1 m := by unfold hearBQ; rw [hbad, k2]; rfl
  rw [hq]
  have ref : ∀ c, hbillQ A 1 m = ⟨[rejO 1 m.key m.amt c], 0, A⟩ → InvT ⟨(hbillQ A 1 m).b, B, D ++ outsM (hbillQ A 1 m).out, U, acc + nAcc (hbillQ A 1 m).out⟩ ∧ (hbillQ A 1 m).e = 0 ∧ OutTo (hbillQ A 1 m).out 1 ∧ (∀ x ∈ (hbillQ A 1 m).out, x.m.kind = 7 → x.m.amt = 50) := fun c hw => by
    rw [hw]
    refine ⟨?_, rfl, .inr ⟨_, rfl, rfl⟩, fun x hx e => ?_⟩
    · show InvT ⟨A, B, D ++ [(rejO 1 m.key m.amt c).m], U, acc + 0⟩
      rw [Nat.add_zero]
      exact binv_m h fun o' x' hi' => ⟨hi'.away, hi'.dst, hi'.v, hi'.s, hi'.n, hi'.ps, hi'.here, hi'.hv, hi'.hs, fun _ => hi'.us (by simp), hi'.pp, mem_add hi'.dk ⟨k1, .inr rfl, fun e => by cases e⟩, tail_of hi'.uk⟩
    · rw [List.mem_singleton] at hx; subst hx; cases e
  rcases Bool.eq_false_or_eq_true o.paid with e1 | e1
  · exact ref 5 (by unfold hbillQ; rw [k1]; simp only [ho, Option.getD_some, hi.away, decide_eq_true hi.dst, e1]; rfl)
  rcases Bool.eq_false_or_eq_true (decide (o.k.v = m.amt)) with e2 | e2
  · have hw : hbillQ A 1 m = ⟨[accO 1 kB m.amt], 0, A.setO kB (paidO o)⟩ := by unfold hbillQ; rw [k1]; simp only [ho, Option.getD_some, hi.away, decide_eq_true hi.dst, e1, e2]; rfl
    have h50 : m.amt = 50 := by have := of_decide_eq_true e2; have := hi.v; omega
    have hs4 : x.k.s = 4 := hi.us (by simp)
    have hn := hi.n
    rw [if_neg (by rw [e1]; intro q; cases q)] at hn
    have hn : acc = 0 := hn
    subst hn
    rw [hw]
    refine ⟨?_, rfl, .inr ⟨_, rfl, rfl⟩, fun x hx e => ?_⟩
    · show InvT ⟨A.setO kB (paidO o), B, D ++ [(accO 1 kB m.amt).m], U, 0 + 1⟩
      rw [setO_some ho]
      refine ⟨⟨paidO o, x, ?_, hx, ⟨hi.away, hi.dst, hi.v, rfl, rfl, fun _ => hs4, hi.here, hi.hv, hi.hs, fun _ => hs4, fun _ => rfl, fun m' hm' => ?_, tail_of hi.uk⟩⟩, h.sa, h.na, h.sb, h.nb, h.ob⟩
      · show lkt (putt A.owns kB (paidO o)) kB = _
        rw [lkt_put, if_pos rfl]
      · rcases List.mem_append.1 hm' with q | q
        · obtain ⟨a1, a2, a3⟩ := hi.dk m' q
          exact ⟨a1, a2, fun _ => rfl⟩
        · rw [List.mem_singleton] at q; subst q
          exact ⟨rfl, .inl rfl, fun _ => rfl⟩
    · rw [List.mem_singleton] at hx; subst hx; exact h50
  · exact ref 1 (by unfold hbillQ; rw [k1]; simp only [ho, Option.getD_some, hi.away, decide_eq_true hi.dst, e1, e2]; rfl)
end
end Go.Proofs.Ytlamaakconjkcaa
end
section
namespace Go.Proofs.Ytlamaakconjkcaa
set_option maxRecDepth 100000
open Go.RowKit Go.Lib Go.Tk Go.Sort Go.Shelf

theorem sort_a : sortL (restsL 101 2 [1, 1]) = [(1, 0), (1, 1)] := by
  refine (sortL_unique ?_ ?_).symm
  · decide
  · decide
theorem share_a : shareV 101 [1, 1] = [51, 50] := by
  have e : shareE 101 [1, 1] = 0 := by decide
  unfold shareV
  rw [if_pos e]
  unfold shareL chosen
  have hs : ([1, 1] : List Int).sum = 2 := by decide
  rw [hs, sort_a]
  decide
theorem sort_b : sortL (restsL 50 2 [1, 1]) = [(0, 0), (0, 1)] := by
  refine (sortL_unique ?_ ?_).symm
  · decide
  · decide
theorem share_b : shareV 50 [1, 1] = [25, 25] := by
  have e : shareE 50 [1, 1] = 0 := by decide
  unfold shareV
  rw [if_pos e]
  unfold shareL chosen
  have hs : ([1, 1] : List Int).sum = 2 := by decide
  rw [hs, sort_b]
  decide
theorem share16 : shareV sale16.fare (wsOf sale16) = [51, 50] := share_a
end Go.Proofs.Ytlamaakconjkcaa
end
section
namespace Go.Proofs.Ytlamaakconjkcaa
set_option maxRecDepth 100000
open Go.RowKit Go.Lib Go.Tk Go.Shelf Go.Vc Go.Sx
set_option linter.unusedVariables false
set_option linter.unusedSimpArgs false

def act18z : Nat := 0
structure Act18 where
  d : Int
  k : Kid
  cmd : Int
  amt : Int
  frm : Int
  m : MsV
deriving Inhabited
structure Act18Ok (x : Act18) : Prop where
  cmd : 0 ≤ x.cmd ∧ x.cmd ≤ 255
def act18L (x : Act18) : List Value := .int .i64 x.d :: .int .u8 x.k.t.c :: .int .u64 x.k.t.r :: .int .u8 x.k.i :: .int .u8 x.cmd :: .int .i64 x.amt :: .int .u8 x.frm :: msL x.m
def act18S (x : Act18) : List SV := .val (.int .i64 x.d) :: .val (.int .u8 x.k.t.c) :: .val (.int .u64 x.k.t.r) :: .val (.int .u8 x.k.i) :: .val (.int .u8 x.cmd) :: .val (.int .i64 x.amt) :: .val (.int .u8 x.frm) :: msS x.m
theorem act18_len (x : Act18) : (act18L x).length = 19 := rfl
def act180 : Act18 := ⟨0, kid0, 0, 0, 0, ⟨0, kid0, cpn0, 0, 0⟩⟩
theorem act18_nth {l : List Act18} {i : Nat} (h : i < l.length) (d : Act18) : ∀ (ε : Env) (q : Nat) (v : SV), (act18S (l.getD i d))[q]? = some v → (cellsL act18L l)[i * 19 + q]? = some (v.den ε) := cells_nth (fun _ _ => rfl) act18_len (getD_some h d)
structure GoodB (σ : BSt) (d cmd amt : Int) : Prop where
  e : eB σ d = 0
  out : OutTo (outB σ d cmd amt) (toB d)
  fifty : ∀ x ∈ outB σ d cmd amt, x.m.kind = 7 → toB d = 1 ∧ x.m.amt = 50
structure StepB (σ : BSt) (d cmd amt : Int) : Prop where
  inv : InvT (stepB σ d cmd amt)
  good : GoodB σ d cmd amt
  dn : (stepB σ d cmd amt).down.length ≤ σ.down.length + 1
  up : (stepB σ d cmd amt).up.length ≤ σ.up.length + 1
theorem kind_use (B : BookV) (cmd : Int) : ∀ x ∈ (useQ B kB cmd).out, x.m.kind ≠ 7 := by
  unfold useQ useHeld
  dsimp only
  cases useB cmd <;> cases decide (kB.t.c = B.self) <;> cases (lkt B.helds kB).isSome <;> cases ((lkt B.helds kB).getD held0).here <;> cases decide ((nextI ((lkt B.helds kB).getD held0).k.s cmd).2 = 0) <;> cases decide ((nextI ((lkt B.helds kB).getD held0).k.s cmd).1 = 4) <;> intro x hx <;> first | exact (List.not_mem_nil hx).elim | (rw [show x = billO kB ((lkt B.helds kB).getD held0).k.v from List.mem_singleton.1 hx]; show (6 : Int) ≠ 7; decide)
theorem kind_bill (B : BookV) (amt : Int) : ∀ x ∈ (billQ B kB amt).out, x.m.kind ≠ 7 := by
  unfold billQ
  dsimp only
  cases (lkt B.helds kB).isSome <;> cases ((lkt B.helds kB).getD held0).here <;> cases (!decide (((lkt B.helds kB).getD held0).k.s = 4) || (((lkt B.helds kB).getD held0).paid || ((lkt B.helds kB).getD held0).billed)) <;> cases mayI amt <;> intro x hx <;> first | exact (List.not_mem_nil hx).elim | (rw [show x = billO kB amt from List.mem_singleton.1 hx]; show (6 : Int) ≠ 7; decide)
theorem outsM_len {out : List OutV} {tw : Int} (h : OutTo out tw) : (outsM out).length ≤ 1 := by
  rcases h with rfl | ⟨x, rfl, -⟩
  · exact Nat.zero_le _
  · exact Nat.le_refl _
theorem bstep_ok {σ : BSt} (h : InvT σ) (d cmd amt : Int) : StepB σ d cmd amt := by
  obtain ⟨A, B, D, U, acc⟩ := σ
  by_cases d0 : d = 0
  · have key := buse_k h cmd
    have hl := outsM_len key.2
    have e : stepB ⟨A, B, D, U, acc⟩ d cmd amt = ⟨A, (useQ B kB cmd).b, D, U ++ outsM (useQ B kB cmd).out, acc⟩ := by unfold stepB; rw [if_pos d0]
    have o : outB ⟨A, B, D, U, acc⟩ d cmd amt = (useQ B kB cmd).out := by unfold outB; rw [if_pos d0]
    refine ⟨by rw [e]; exact key.1, ⟨by unfold eB; rw [if_pos d0], ?_, fun x hx q => ?_⟩, by rw [e]; exact Nat.le_succ _, by rw [e]; show (U ++ _).length ≤ U.length + 1; rw [List.length_append]; omega⟩
    · rw [o]; unfold toB; rw [if_pos d0]; exact key.2
    · rw [o] at hx; exact absurd q (kind_use B cmd x hx)
  by_cases d1 : d = 1
  · have key := bbill_k h amt
    have hl := outsM_len key.2
    have e : stepB ⟨A, B, D, U, acc⟩ d cmd amt = ⟨A, (billQ B kB amt).b, D, U ++ outsM (billQ B kB amt).out, acc⟩ := by unfold stepB; rw [if_neg d0, if_pos d1]
    have o : outB ⟨A, B, D, U, acc⟩ d cmd amt = (billQ B kB amt).out := by unfold outB; rw [if_neg d0, if_pos d1]
    refine ⟨by rw [e]; exact key.1, ⟨by unfold eB; rw [if_neg d0, if_pos d1], ?_, fun x hx q => ?_⟩, by rw [e]; exact Nat.le_succ _, by rw [e]; show (U ++ _).length ≤ U.length + 1; rw [List.length_append]; omega⟩
    · rw [o]; unfold toB; rw [if_neg d0, if_pos d1]; exact key.2
    · rw [o] at hx; exact absurd q (kind_bill B amt x hx)
  by_cases d2 : d = 2
  · have t : toB d = 0 := by unfold toB; rw [if_neg d0, if_neg d1, if_pos d2]
    cases D with
    | nil =>
      have e : stepB ⟨A, B, [], U, acc⟩ d cmd amt = ⟨A, B, [], U, acc⟩ := by unfold stepB; rw [if_neg d0, if_neg d1, if_pos d2]
      have o : outB ⟨A, B, [], U, acc⟩ d cmd amt = [] := by unfold outB; rw [if_neg d0, if_neg d1, if_pos d2]
      exact ⟨by rw [e]; exact h, ⟨by unfold eB; rw [if_neg d0, if_neg d1, if_pos d2], by rw [o]; exact .inl rfl, fun x hx => by rw [o] at hx; cases hx⟩, by rw [e]; exact Nat.le_succ _, by rw [e]; exact Nat.le_succ _⟩
    | cons m D =>
      have key := bhearD_k h
      have hl := outsM_len key.2.2
      have e : stepB ⟨A, B, m :: D, U, acc⟩ d cmd amt = ⟨A, (hearBQ B 0 m).b, D, U ++ outsM (hearBQ B 0 m).out, acc⟩ := by unfold stepB; rw [if_neg d0, if_neg d1, if_pos d2]
      have o : outB ⟨A, B, m :: D, U, acc⟩ d cmd amt = (hearBQ B 0 m).out := by unfold outB; rw [if_neg d0, if_neg d1, if_pos d2]
      have hz : (hearBQ B 0 m).out = [] := by
        obtain ⟨o', x, -, -, hi⟩ := h.one
        obtain ⟨-, k2, -⟩ := hi.dk m List.mem_cons_self
        unfold hearBQ
        cases badHearB B 0 m.kind
        · rcases k2 with q | q <;> rw [q] <;> rfl
        · rfl
      refine ⟨by rw [e]; exact key.1, ⟨by unfold eB; rw [if_neg d0, if_neg d1, if_pos d2]; exact key.2.1, by rw [o, t]; exact key.2.2, fun x hx => by rw [o, hz] at hx; cases hx⟩, by rw [e]; show D.length ≤ D.length + 1 + 1; omega, by rw [e]; show (U ++ _).length ≤ U.length + 1; rw [List.length_append]; omega⟩
  have t : toB d = 1 := by unfold toB; rw [if_neg d0, if_neg d1, if_neg d2]
  cases U with
  | nil =>
    have e : stepB ⟨A, B, D, [], acc⟩ d cmd amt = ⟨A, B, D, [], acc⟩ := by unfold stepB; rw [if_neg d0, if_neg d1, if_neg d2]
    have o : outB ⟨A, B, D, [], acc⟩ d cmd amt = [] := by unfold outB; rw [if_neg d0, if_neg d1, if_neg d2]
    exact ⟨by rw [e]; exact h, ⟨by unfold eB; rw [if_neg d0, if_neg d1, if_neg d2], by rw [o]; exact .inl rfl, fun x hx => by rw [o] at hx; cases hx⟩, by rw [e]; exact Nat.le_succ _, by rw [e]; exact Nat.le_succ _⟩
  | cons m U =>
    have key := bhearU_k h
    have hl := outsM_len key.2.2.1
    have e : stepB ⟨A, B, D, m :: U, acc⟩ d cmd amt = ⟨(hearBQ A 1 m).b, B, D ++ outsM (hearBQ A 1 m).out, U, acc + nAcc (hearBQ A 1 m).out⟩ := by unfold stepB; rw [if_neg d0, if_neg d1, if_neg d2]
    have o : outB ⟨A, B, D, m :: U, acc⟩ d cmd amt = (hearBQ A 1 m).out := by unfold outB; rw [if_neg d0, if_neg d1, if_neg d2]
    exact ⟨by rw [e]; exact key.1, ⟨by unfold eB; rw [if_neg d0, if_neg d1, if_neg d2]; exact key.2.1, by rw [o, t]; exact key.2.2.1, fun x hx q => ⟨t, by rw [o] at hx; exact key.2.2.2 x hx q⟩⟩, by rw [e]; show (D ++ _).length ≤ D.length + 1; rw [List.length_append]; omega, by rw [e]; show U.length ≤ U.length + 1 + 1; omega⟩
/-! ### where it begins -/
theorem own_50 : lkt ((bookNew 0 3).issued sale16).owns kB = some (ownNew ⟨1, 0, 1⟩ 50) := by
  show lkt (issO (bookNew 0 3).nextT sale16 (shareV sale16.fare (wsOf sale16)) [] (shareV sale16.fare (wsOf sale16)).length) kB = _
  rw [share16]; rfl
def pairA : BookV := ((bookNew 0 3).issued sale16).setO kB (givenA 50)
def pairB : BookV := heldB 50
theorem pairA_own : lkt pairA.owns kB = some (givenA 50) := by
  unfold pairA
  rw [setO_some own_50]
  show lkt (putt _ kB (givenA 50)) kB = _
  rw [lkt_put, if_pos rfl]
theorem pairA_self : pairA.self = 0 ∧ pairA.n = 3 := by
  unfold pairA
  rw [setO_some own_50]
  exact ⟨rfl, rfl⟩
def startBS : BSt := ⟨pairA, pairB, [], [], 0⟩
theorem start_okB : InvT startBS :=
  ⟨⟨givenA 50, newH (heldK 50), pairA_own, rfl, ⟨rfl, rfl, rfl, rfl, rfl, (fun e => by cases e), rfl, rfl, by show (1 : Int) ≤ 1 ∧ (1 : Int) ≤ 4; decide, (fun e => absurd rfl e), (fun e => by cases e), (fun m hm => by cases hm), (fun m hm => by cases hm)⟩⟩, pairA_self.1, pairA_self.2, rfl, rfl, rfl⟩
def runB (σ : BSt) (acts : List Act18) : Nat → BSt
  | 0 => σ
  | i + 1 => stepB (runB σ acts i) (acts.getD i act180).d (acts.getD i act180).cmd (acts.getD i act180).amt
theorem runB_ok (acts : List Act18) : ∀ i, InvT (runB startBS acts i) ∧ (runB startBS acts i).down.length ≤ i ∧ (runB startBS acts i).up.length ≤ i
  | 0 => ⟨start_okB, Nat.le_refl _, Nat.le_refl _⟩
  | i + 1 => by
    obtain ⟨h1, h2, h3⟩ := runB_ok acts i
    have hs := bstep_ok h1 (acts.getD i act180).d (acts.getD i act180).cmd (acts.getD i act180).amt
    exact ⟨hs.inv, Nat.le_trans hs.dn (by omega), Nat.le_trans hs.up (by omega)⟩
/-! ### what was flown -/
def heldT (s : Int) (p b : Bool) : HeldV := ⟨⟨⟨1, 0, 1⟩, 50, s, 1⟩, true, p, false, b⟩
def bookT (s : Int) (p b : Bool) : BookV := { bookNew 1 3 with helds := [(kB, heldT s p b)] }
def paidA : BookV := pairA.setO kB (paidO (givenA 50))
theorem paidA_own : lkt paidA.owns kB = some (paidO (givenA 50)) := by
  unfold paidA
  rw [setO_some pairA_own]
  show lkt (putt _ kB (paidO (givenA 50))) kB = _
  rw [lkt_put, if_pos rfl]
theorem use_fly0 : useQ pairB kB 12 = ⟨[], 6, pairB⟩ := by kernel_rfl
theorem use_check : useQ pairB kB 9 = ⟨[], 0, bookT 2 false false⟩ := by kernel_rfl
theorem use_board : useQ (bookT 2 false false) kB 11 = ⟨[], 0, bookT 3 false false⟩ := by kernel_rfl
theorem use_fly : useQ (bookT 3 false false) kB 12 = ⟨[billO kB 50], 0, bookT 4 false true⟩ := by kernel_rfl
theorem bill_come : hearBQ pairA 1 ⟨6, kB, cpn0, 50, 0⟩ = ⟨[accO 1 kB 50], 0, paidA⟩ := by
  unfold hearBQ badHearB hbillQ
  rw [pairA_self.1, pairA_self.2]
  simp only [pairA_own, Option.getD_some]
  rfl
theorem acc_come (p : Bool) : hearBQ (bookT 4 p true) 0 ⟨7, kB, cpn0, 50, 0⟩ = ⟨[], 0, bookT 4 true false⟩ := by cases p <;> kernel_rfl
/-- three ways that it may stand: the bill comes; the answer comes; it is paid -/
inductive St3 : BSt → Prop
  | one : St3 ⟨pairA, bookT 4 false true, [], [(billO kB 50).m], 0⟩
  | two : St3 ⟨paidA, bookT 4 false true, [(accO 1 kB 50).m], [], 1⟩
  | three : St3 ⟨paidA, bookT 4 true false, [], [], 1⟩
theorem use_no4 (p b : Bool) (cmd : Int) : ∃ e, useQ (bookT 4 p b) kB cmd = ⟨[], e, bookT 4 p b⟩ := by
  unfold useQ
  rcases Bool.eq_false_or_eq_true (useB cmd) with eu | eu
  · rw [eu]
    rcases use_yes eu with rfl | rfl | rfl | rfl <;> exact ⟨6, by cases p <;> cases b <;> kernel_rfl⟩
  · rw [eu]; exact ⟨1, rfl⟩
theorem bill_no4 (p b : Bool) (h : (p || b) = true) (amt : Int) : billQ (bookT 4 p b) kB amt = ⟨[], 6, bookT 4 p b⟩ := by
  cases p <;> cases b <;> first | exact absurd h (by decide) | rfl
theorem st3_stay {σ : BSt} (h : St3 σ) {d cmd amt : Int} (hd : d = 0 ∨ d = 1) : stepB σ d cmd amt = σ ∧ outB σ d cmd amt = [] ∧ eB σ d = 0 := by
  have app : ∀ l : List MsV, l ++ outsM [] = l := fun l => by rw [show outsM [] = [] from rfl, List.append_nil]
  have key : ∀ {A : BookV} {p b : Bool} {D U : List MsV} {acc : Nat}, (p || b) = true → stepB ⟨A, bookT 4 p b, D, U, acc⟩ d cmd amt = ⟨A, bookT 4 p b, D, U, acc⟩ ∧ outB ⟨A, bookT 4 p b, D, U, acc⟩ d cmd amt = [] ∧ eB ⟨A, bookT 4 p b, D, U, acc⟩ d = 0 := fun {A p b D U acc} hp => by
    rcases hd with rfl | rfl
    · obtain ⟨e, hu⟩ := use_no4 p b cmd
      refine ⟨?_, ?_, rfl⟩
      · unfold stepB; rw [if_pos rfl]; simp only [hu, app]
      · unfold outB; rw [if_pos rfl]; simp only [hu]
    · refine ⟨?_, ?_, rfl⟩
      · unfold stepB; rw [if_neg (by decide), if_pos rfl]; simp only [bill_no4 p b hp amt, app]
      · unfold outB; rw [if_neg (by decide), if_pos rfl]; simp only [bill_no4 p b hp amt]
  cases h with
  | one => exact key rfl
  | two => exact key rfl
  | three => exact key rfl
theorem st3_step {σ : BSt} (h : St3 σ) (d cmd amt : Int) : St3 (stepB σ d cmd amt) := by
  by_cases h01 : d = 0 ∨ d = 1
  · rw [(st3_stay h h01).1]; exact h
  have n0 : d ≠ 0 := fun e => h01 (.inl e)
  have n1 : d ≠ 1 := fun e => h01 (.inr e)
  by_cases d2 : d = 2
  · unfold stepB
    rw [if_neg n0, if_neg n1, if_pos d2]
    cases h with
    | one => exact .one
    | two =>
      show St3 { a := paidA, b := (hearBQ (bookT 4 false true) 0 ⟨7, kB, cpn0, 50, 0⟩).b, down := [], up := [] ++ outsM (hearBQ (bookT 4 false true) 0 ⟨7, kB, cpn0, 50, 0⟩).out, acc := 1 }
      rw [acc_come]; exact .three
    | three => exact .three
  · unfold stepB
    rw [if_neg n0, if_neg n1, if_neg d2]
    cases h with
    | one =>
      show St3 { a := (hearBQ pairA 1 ⟨6, kB, cpn0, 50, 0⟩).b, b := bookT 4 false true, down := [] ++ outsM (hearBQ pairA 1 ⟨6, kB, cpn0, 50, 0⟩).out, up := [], acc := 0 + nAcc (hearBQ pairA 1 ⟨6, kB, cpn0, 50, 0⟩).out }
      rw [bill_come]; exact .two
    | two => exact .two
    | three => exact .three
end Go.Proofs.Ytlamaakconjkcaa
end
section
namespace Go.Proofs.Ytlamaakconjkcaa
set_option maxRecDepth 100000
open Go.RowKit Go.Lib Go.Tk Go.Shelf Go.Vc Go.Sx
set_option linter.unusedVariables false
set_option linter.unusedSimpArgs false

def PairF : Nat := 12
def WakesF18 : Nat := 11
def BmineF : Nat := 37
theorem bmine_bill : CallOK Try.prog BmineF [.val (.int .u8 6)] [] [] (.val (.bool true)) [] := callOK_run 400 [] (by kernel_rfl) (by kernel_rfl)
theorem bmine_want : CallOK Try.prog BmineF [.val (.int .u8 1)] [] [] (.val (.bool false)) [] := callOK_run 400 [] (by kernel_rfl) (by kernel_rfl)
theorem kB_ok : KidOk kB := keyA_ok (by decide) (by decide)
theorem pair_w : CallOK Try.prog PairF [] [] [] (.tup [.ptr 1 0 0, .ptr 1 1 0, .agg (kidS kB), .val (.bool true)]) [((1, 0), .fam (bookF pairA)), ((1, 1), .fam (bookF pairB))] := by
  have hv := own_50
  have n1 := new_okC (self := 0) (n := 3) (by decide) (by decide)
  have n2 := new_okC (self := 1) (n := 3) (by decide) (by decide)
  have n4 := issue_okR (book_new_ok 0 3 (by decide)) sale16_ok iss16
  have hself : ((bookNew 0 3).issued sale16).self = 0 := rfl
  have hn : ((bookNew 0 3).issued sale16).n = 3 := rfl
  unfold pairA
  generalize (bookNew 0 3).issued sale16 = A at *
  have c1 := want_c (bookNew 1 3) kB_ok
  rw [show wantQ (bookNew 1 3) kB = ⟨[⟨0, ⟨1, kB, cpn0, 0, 0⟩⟩], 0, wantB⟩ from rfl] at c1
  have c2 := hear_c A (c := 1) (by decide) ⟨1, kB, cpn0, 0, 0⟩ (by decide) kB_ok
  rw [show hearQ A 1 ⟨1, kB, cpn0, 0, 0⟩ = ⟨[⟨1, ⟨2, kB, heldK 50, 0, 0⟩⟩], 0, A.setO kB (givenA 50)⟩ by unfold hearQ badHear hearDo hwantQ; rw [hself, hn, hv]; rfl] at c2
  have c3 := hear_c wantB (c := 0) (by decide) ⟨2, kB, heldK 50, 0, 0⟩ ⟨by show (0 : Int) ≤ 2; decide, by show (2 : Int) ≤ 255; decide⟩ kB_ok
  rw [show hearQ wantB 0 ⟨2, kB, heldK 50, 0, 0⟩ = ⟨[], 0, heldB 50⟩ from rfl] at c3
  exact callOK_run 600 [hC 1 0 n1, hC 2 0 n2, hC 3 5 n4, hC 5 2 c1, hC 8 5 c2, hC 11 5 c3] (by kernel_rfl) (by kernel_rfl)
theorem use_t {B : BookV} (hB : B.owns = []) (hh : ∀ h, lkt B.helds kB = some h → 0 ≤ h.k.s ∧ h.k.s ≤ 255) {cmd : Int} (hc : 0 ≤ cmd ∧ cmd ≤ 255) {q : HR} (hq : useQ B kB cmd = q) :
    CallOK Try.prog UseF [.ptr 0 0 0, .agg (kidS kB), .val (.int .u8 cmd)] [] (bkC B) (.tup [.raw 1 0, eN q.e]) (bkC q.b ++ [((1, 0), outsC q.out)]) := by
  have h := use_c B kB_ok hc (fun o ho => by rw [hB] at ho; cases ho) hh
  rw [hq] at h
  exact h
theorem heldT_s {s : Int} {p b : Bool} (h0 : 0 ≤ s ∧ s ≤ 255) : ∀ h, lkt (bookT s p b).helds kB = some h → 0 ≤ h.k.s ∧ h.k.s ≤ 255 := fun h hh => by
  have hh : some (heldT s p b) = some h := hh
  cases hh
  exact h0
theorem pairB_s : ∀ h, lkt pairB.helds kB = some h → 0 ≤ h.k.s ∧ h.k.s ≤ 255 := fun h hh => by
  have hh : some (newH (heldK 50)) = some h := hh
  cases hh
  show (0 : Int) ≤ 1 ∧ (1 : Int) ≤ 255; decide
theorem wakes18_w : CallOK Try.prog WakesF18 [] [] [] (.val (.bool true)) [] := by
  have c1 := pair_w
  have c2 := use_t (B := pairB) rfl pairB_s (cmd := 12) (by decide) use_fly0
  have c3 := use_t (B := pairB) rfl pairB_s (cmd := 9) (by decide) use_check
  have c4 := use_t (B := bookT 2 false false) rfl (heldT_s (by decide)) (cmd := 11) (by decide) use_board
  have c5 := use_t (B := bookT 3 false false) rfl (heldT_s (by decide)) (cmd := 12) (by decide) use_fly
  have c6 := hearB_c pairA (c := 1) (by decide) ⟨6, kB, cpn0, 50, 0⟩ (by decide) kB_ok
  rw [bill_come] at c6
  have c7 := own_c paidA kB_ok
  rw [paidA_own] at c7
  have c8 := bmine_bill
  have c9 := bmine_want
  exact callOK_run 900 [hC 1 0 c1, hC 4 2 c2, hC 5 2 c3, hC 6 2 c4, hC 7 2 c5, hC 10 5 c6, hC 11 2 c7, hC 12 26 c8, hC 12 29 c9] (by kernel_rfl) (by kernel_rfl)
/-! ### no book -/
def Nil18F : Nat := 3
theorem nil18_w (x : Act18) : CallOK Try.prog Nil18F [.agg (act18S x)] [] [] (.val (.bool true)) [] := by
  have c1 := use_nil x.k x.cmd
  have c2 := bill_nil x.k x.amt
  have c3 := hearB_nil x.frm x.m
  have c5 := wakes18_w
  exact callOK_run 400 [hC 1 4 c1, hC 2 4 c2, hC 3 4 c3, hC 4 22 c5] (by kernel_rfl) (by kernel_rfl)
theorem nil18_any (x : Act18) (w : World) (ok : Act18Ok x) :
    Calls Try.prog Nil18F #[.agg (act18L x).toArray] w fun e w' => e = .returned (.bool true) ∧ Below w.heap.size w w' :=
  (nil18_w x (fun _ _ => (0, undef)) [oldC w] w (Mem.old w)).mono fun e w' ⟨x, h, hm⟩ => ⟨h, (show Mem (oldC w :: []) w' from hm).below 0 rfl⟩
end Go.Proofs.Ytlamaakconjkcaa
end
