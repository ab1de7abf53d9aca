/- Bi2, SxQ2, Bi3, Lw16b, HoP1, Lw16c, Lw16d, Lw16e. -/
import Derived.Test.YtlamaakconjkcaaM33c0a00
import Derived.Test.YtlamaakconjkcaaSxQ
section
namespace Go.Proofs.Ytlamaakconjkcaa
set_option maxRecDepth 100000
open Go.RowKit Go.Lib Go.Tk Go.Shelf Go.Vc Go.Sx
set_option linter.unusedVariables false
set_option linter.unusedSimpArgs false

def rejO (c : Int) (k : Kid) (amt e : Int) : OutV := ⟨c, ⟨8, k, cpn0, amt, e⟩⟩
def accO (c : Int) (k : Kid) (amt : Int) : OutV := ⟨c, ⟨7, k, cpn0, amt, 0⟩⟩
def paidO (o : OwnV) : OwnV := { o with k := { o.k with s := 4 }, paid := true }
def hbillQ (B : BookV) (c : Int) (m : MsV) : HR :=
  let o := (lkt B.owns m.key).getD own0
  bif !(lkt B.owns m.key).isSome then ⟨[rejO c m.key m.amt 4], 0, B⟩
  else bif !o.away || !decide (o.dst = c) then ⟨[rejO c m.key m.amt 160], 0, B⟩
  else bif o.paid then ⟨[rejO c m.key m.amt 5], 0, B⟩
  else bif !decide (o.k.v = m.amt) then ⟨[rejO c m.key m.amt 1], 0, B⟩
  else ⟨[accO c m.key m.amt], 0, B.setO m.key (paidO o)⟩
def HbillF : Nat := 34
def HansF : Nat := 35
def Rej1 : Nat := 72
theorem rej1_w (c : Int) (m : MsV) (e : Int) : CallOK Try.prog Rej1 [eN e, .ptr 0 4 0] [((0, 4), .box none (hearS c m))] [] (.raw 1 0) [((1, 0), outsR [rejO c m.key m.amt e])] := by
  have c3 := btell_w c ⟨8, m.key, cpn0, m.amt, e⟩
  exact callOK_run 400 [hC 1 10 c3] (by kernel_rfl) (by kernel_rfl)
theorem hbill_w (F : CF) (B : BookV) (c : Int) (m : MsV) (hk : KidOk m.key) : CallOK Try.prog HbillF [.agg (hearS c m)] [] (bkH F B) (.raw 1 0) (bkH F (hbillQ B c m).b ++ [((1, 0), outsR (hbillQ B c m).out)]) := by
  have c1 := own_w F B hk
  have r1 := rej1_w c m 4
  have r2 := rej1_w c m 160
  have r3 := rej1_w c m 5
  have r4 := rej1_w c m 1
  unfold hbillQ
  cases hl : lkt B.owns m.key with
  | none =>
    rw [hl] at c1
    exact callOK_run 400 [hC 1 5 c1, hC 4 1 r1] (by kernel_rfl) (by kernel_rfl)
  | some o =>
    rw [hl] at c1
    have c2 := setOwn_w F B hk (paidO o)
    have c4 := btell_w c ⟨7, m.key, cpn0, m.amt, 0⟩
    simp only [Option.getD_some]
    rcases Bool.eq_false_or_eq_true o.away with e1 | e1
    · rcases Bool.eq_false_or_eq_true (decide (o.dst = c)) with e2 | e2
      · have e2' : (!decide (o.dst = c)) = false := by rw [e2]; rfl
        rcases Bool.eq_false_or_eq_true o.paid with e3 | e3
        · simp only [e1, e2, e3]; exact callOK_run 400 [hC 1 5 c1, hB 5 1 _ _ e1, hB 5 8 _ _ e2', hB 7 1 _ _ e3, hC 8 1 r3] (by kernel_rfl) (by kernel_rfl)
        · rcases Bool.eq_false_or_eq_true (decide (o.k.v = m.amt)) with e4 | e4
          · have e4' : (!decide (o.k.v = m.amt)) = false := by rw [e4]; rfl
            simp only [e1, e2, e3, e4]; exact callOK_run 400 [hC 1 5 c1, hB 5 1 _ _ e1, hB 5 8 _ _ e2', hB 7 1 _ _ e3, hB 9 6 _ _ e4', hC 12 6 c2, hC 13 9 c4] (by kernel_rfl) (by kernel_rfl)
          · have e4' : (!decide (o.k.v = m.amt)) = true := by rw [e4]; rfl
            simp only [e1, e2, e3, e4]; exact callOK_run 400 [hC 1 5 c1, hB 5 1 _ _ e1, hB 5 8 _ _ e2', hB 7 1 _ _ e3, hB 9 6 _ _ e4', hC 10 1 r4] (by kernel_rfl) (by kernel_rfl)
      · have e2' : (!decide (o.dst = c)) = true := by rw [e2]; rfl
        simp only [e1, e2]; exact callOK_run 400 [hC 1 5 c1, hB 5 1 _ _ e1, hB 5 8 _ _ e2', hC 6 1 r2] (by kernel_rfl) (by kernel_rfl)
    · simp only [e1]; exact callOK_run 400 [hC 1 5 c1, hB 5 1 _ _ e1, hC 6 1 r2] (by kernel_rfl) (by kernel_rfl)
def ansdP (h : HeldV) (p : Bool) : HeldV := { h with billed := false, paid := p }
def ansdH (h : HeldV) (kind : Int) : HeldV := ansdP h (h.paid || decide (kind = 7))
def hansB (B : BookV) (c : Int) (m : MsV) : BookV := bif isHeld B c m.key && ((lkt B.helds m.key).getD held0).billed then B.setH m.key (ansdH ((lkt B.helds m.key).getD held0) m.kind) else B
theorem hans_w (F : CF) (B : BookV) (c : Int) (m : MsV) (hk : KidOk m.key) : CallOK Try.prog HansF [.agg (hearS c m)] [] (bkH F B) nilS (bkH F (hansB B c m)) := by
  have c1 := held_w F B hk
  unfold hansB isHeld
  cases hl : lkt B.helds m.key with
  | none =>
    rw [hl] at c1
    exact callOK_run 400 [hC 1 5 c1] (by kernel_rfl) (by kernel_rfl)
  | some h =>
    rw [hl] at c1
    have c2 := setHeld_w F B hk (ansdH h m.kind)
    simp only [Option.getD_some]
    rcases Bool.eq_false_or_eq_true (decide (m.key.t.c = c)) with e1 | e1
    · rcases Bool.eq_false_or_eq_true h.billed with e2 | e2
      · unfold ansdH at c2 ⊢
        rcases Bool.eq_false_or_eq_true h.paid with e3 | e3 <;> rcases Bool.eq_false_or_eq_true (decide (m.kind = 7)) with e4 | e4 <;> simp only [e1, e2, e3, e4] at c2 ⊢ <;> exact callOK_run 400 [hC 1 5 c1, hB 2 10 _ _ e1, hB 2 14 _ _ e2, hB 4 1 _ _ e3, hB 4 6 _ _ e4, hC 5 6 c2] (by kernel_rfl) (by kernel_rfl)
      · simp only [e1, e2]; exact callOK_run 400 [hC 1 5 c1, hB 2 10 _ _ e1, hB 2 14 _ _ e2] (by kernel_rfl) (by kernel_rfl)
    · simp only [e1]; exact callOK_run 400 [hC 1 5 c1, hB 2 10 _ _ e1] (by kernel_rfl) (by kernel_rfl)
end Go.Proofs.Ytlamaakconjkcaa
end
section
namespace Go.Sx
set_option linter.unusedVariables false
set_option linter.unusedSimpArgs false
set_option linter.unusedSectionVars false
open Go.RowKit Go.Tk Go.Lib Go.Shelf Go.Vc
variable {P : Program}

theorem row_q {E size n : Nat} {v : Value} {xs : List Value} {S : Nat → Prop} {w : World} (h : (rowC E size v n xs).at_ S w) : (qcC E size v n xs).at_ S w := by
  refine ⟨h.1, ?_⟩
  obtain ⟨hl, h1 | ⟨g, cap, cur, hv, hb, h1, h2, h3, h4⟩⟩ := h.2
  · exact ⟨hl, .inl h1⟩
  · exact ⟨hl, .inr ⟨g, 0, cap, cur, by rw [hv, Nat.zero_mul], hb, h1, h2, by rw [Nat.zero_add, h3]; exact Nat.le_refl _, by rw [Nat.zero_mul, List.drop_zero]; exact h4⟩⟩
theorem go_queue {f : Nat} {ret : SV} {rp : Heap} {eb : Env} {R : List Chunk} {e : Ex} {K : List It} {sl : Slots} {H : Heap} (d k : Nat) (E size n : Nat) (L : SL) (xs : List Value) (hu : lkS sl d = some (.raw 1 k)) (hx : ∀ ε, L.den ε = xs)
    (h1 : sl.all (fun x => Nat.beq x.1 d || x.2.ok (isNm k)) = true) (h2 : hok (isNm k) H = true)
    (h : Go P f ret rp eb R e K (putS sl d (.any 1 k)) (((1, k), .fam fun _ v => qcC E size v n xs) :: H)) : Go P f ret rp eb R e K sl (((1, k), .row E size n L []) :: H) := by
  intro ε a w hr
  have key : ∀ s j, isNm k s j = true → ε s j = eset ε 1 (fun j => bif Nat.beq j k then (0, asSl (ε 1 k).2) else ε 1 j) s j := fun s j hs => by
    by_cases h0 : s = 1
    · subst h0
      rw [eset_at]
      cases hb : Nat.beq j k with
      | false => rfl
      | true => unfold isNm at hs; rw [hb] at hs; cases hs
    · rw [eset_ne h0]
  have ek : eset ε 1 (fun j => bif Nat.beq j k then (0, asSl (ε 1 k).2) else ε 1 j) 1 k = (0, asSl (ε 1 k).2) := by rw [eset_at, Nat.beq_refl]; rfl
  refine h (eset ε 1 fun j => bif Nat.beq j k then (0, asSl (ε 1 k).2) else ε 1 j) a w ⟨hr.size, hr.defers, ?_, ?_, ?_, ?_, ?_, hr.pos⟩
  · intro d' v hv
    rw [lkS_put] at hv
    by_cases hd : d' = d
    · rw [if_pos hd] at hv
      cases hv
      subst hd
      have := hr.slots d' _ hu
      refine ⟨?_, rfl⟩
      rw [this.1]
      simp only [SV.den, ek]
    · rw [if_neg hd] at hv
      have := hr.slots d' v hv
      refine ⟨?_, this.2⟩
      rw [this.1]
      have hok : v.ok (isNm k) = true := by
        have := List.all_eq_true.1 h1 _ (lkS_mem hv)
        rw [Bool.or_eq_true] at this
        rcases this with q | q
        · exact absurd (Nat.eq_of_beq_eq_true q) hd
        · exact q
      rw [SV.den_congr key v hok]
  · have h4 := hr.mem
    have h4 : Mem (rowC E size (asSl (ε 1 k).2) n (L.den ε) :: (hden ε H ++ R)) w := h4
    rw [hx] at h4
    have h5 := h4.weaken (c' := qcC E size (asSl (ε 1 k).2) n xs) fun S hS => row_q hS
    rw [hden_congr key h2] at h5
    show Mem (qcC E size (eset ε 1 _ 1 k).2 n xs :: (hden (eset ε 1 _) H ++ R)) w
    rw [ek]; exact h5
  · exact hr.nd
  · have := hr.sc
    unfold hok at this ⊢
    exact List.all_eq_true.2 fun x hx => by
      rcases List.mem_cons.1 hx with rfl | hx
      · rfl
      · exact List.all_eq_true.1 this x (List.mem_cons_of_mem _ hx)
  · intro t ht
    rw [eset_ne (by omega)]
    exact hr.e0 t ht
noncomputable local instance : DecidableEq Value := Classical.typeDecidableEq Value
theorem look_missJ (j : Nat) {P : Program} {t kt e : TypeId} {c : Bool} {es : List (Value × SV × Nat)} {k : IntKind} {x : Int} {z : Value} {ret : SV} {i : IntKind} (hT : P.underlying t = some (.map kt e)) (hk : P.underlying kt = some (.int i)) (hkb : keyB P kt = true) (hes : keysOK P kt es = true) (hx : ∃ l, keyOf P kt (.int k x) = some l) (hz : ∀ w, (zeroValue e).run P w = .ok z w)
    (hno : ∀ q ∈ es, q.1 ≠ .int k x) (hr : ∀ ε, ret.den ε = if c then .tuple #[z, .bool false] else z) (hro : ret.ok (ltB 0) = true) (hok : (SC.obj es 0).ok (ltB 1) = true) :
    OpG P (isLk t c) lkXY [.map 0 j, .val (.int k x)] [((0, j), .obj es 0)] [] ret [] := by
  have K := keyB_ok hkb
  intro o ho
  obtain ⟨a, b, ho, hxy⟩ := isLk_of ho
  rw [hxy]
  refine ⟨fun q hq => by rw [ho]; simpa [Op.operands] using hq, fun ε ρ R w hxx hM => ?_⟩
  simp only [List.map_cons, List.map_nil, SV.dens, SV.den, List.cons.injEq, and_true] at hxx
  obtain ⟨h1, h2⟩ := hxx
  have hM : Mem (objM (ε 0 j).1 (entsDen ε es) :: R) w := hM
  have hm := hM.of (c := objM _ _) 0 rfl (φ := MapAt (KV kt K) w (ε 0 j).1 (entsDen ε es)) (fun S hS => objM_map K hes hS)
  have hrun := hm.lookup (w := w) hT hz (x := (.int k x)) hx c
  have hl : lk (entsDen ε es) (.int k x) = none := by
    rw [lk_none]
    intro p hp
    obtain ⟨q, hq, rfl⟩ := List.mem_map.1 hp
    exact hno q hq
  rw [hl] at hrun
  have hrun : (Instr.lookup t (.map (some (ε 0 j).1)) (.int k x) c).run P w = .ok (if c then .tuple #[z, .bool false] else z) w := hrun
  have hE : (execOp ρ o).run P w = .ok (.value (ret.den ε)) w := by
    unfold execOp; rw [ho]
    simp only [h1, h2]
    rw [hr ε]
    simp [hrun, go_sem]
  refine res_ok hE ⟨ε 1, ?_, ?_⟩
  · rw [eset_self]
  · rw [eset_self]; exact hM
end Go.Sx
end
section
namespace Go.Proofs.Ytlamaakconjkcaa
set_option maxRecDepth 100000
open Go.RowKit Go.Lib Go.Tk Go.Shelf Go.Vc Go.Sx
set_option linter.unusedVariables false
set_option linter.unusedSimpArgs false

def badHearB (B : BookV) (c : Int) (kind : Int) : Bool := !(decide (6 ≤ kind) && decide (kind ≤ 8)) || (decide (c = B.self) || decide (B.n ≤ c))
def hearBQ (B : BookV) (c : Int) (m : MsV) : HR := bif badHearB B c m.kind then ⟨[], 1, B⟩ else bif decide (m.kind = 6) then hbillQ B c m else ⟨[], 0, hansB B c m⟩
theorem hbill_e (B : BookV) (c : Int) (m : MsV) : (hbillQ B c m).e = 0 := by
  unfold hbillQ
  dsimp only
  cases (lkt B.owns m.key).isSome <;> cases ((lkt B.owns m.key).getD own0).away <;> cases decide (((lkt B.owns m.key).getD own0).dst = c) <;> cases ((lkt B.owns m.key).getD own0).paid <;> cases decide (((lkt B.owns m.key).getD own0).k.v = m.amt) <;> rfl
def BhearF : Nat := 10
def BFT : TypeId := 103
def bhearEs (c : Int) (m : MsV) : List (Value × SV × Nat) := [(.int .u8 8, .fn (.func HansF) [.agg (hearS c m)] [], 0), (.int .u8 7, .fn (.func HansF) [.agg (hearS c m)] [], 0), (.int .u8 6, .fn (.func HbillF) [.agg (hearS c m)] [], 0)]
theorem bhear_w (F : CF) (B : BookV) {c : Int} (hc : 0 ≤ c ∧ c ≤ 255) (m : MsV) (hm : 0 ≤ m.kind ∧ m.kind ≤ 255) (hk : KidOk m.key) : CallOK Try.prog BhearF [.ptr 0 0 0, .val (.int .u8 c), .agg (msS m)] [] (bkH F B) (.tup [.raw 1 0, eN (hearBQ B c m).e]) (bkH F (hearBQ B c m).b ++ [((1, 0), outsC (hearBQ B c m).out)]) := by
  obtain ⟨kind, key, k, amt, code⟩ := m
  have c1 := self_w F B
  have c2 := carr_w F B
  have w1 : IntKind.i64.wrap c = c := wr_i64 (by omega)
  have h1 := outs_of (hbill_w F B c ⟨kind, key, k, amt, code⟩ hk)
  have h2 := hans_w F B c ⟨kind, key, k, amt, code⟩ hk
  have E1 := hbill_e B c ⟨kind, key, k, amt, code⟩
  by_cases g : kind = 6 ∨ kind = 7 ∨ kind = 8
  · rcases Bool.eq_false_or_eq_true (decide (c = B.self)) with e1 | e1
    · have e : badHearB B c kind = true := by unfold badHearB; rw [e1, Bool.true_or, Bool.or_true]
      unfold hearBQ
      simp only [e]
      rcases g with rfl | rfl | rfl <;> exact callOK_run 400 [hC 6 5 c1, hB 6 6 _ _ e1] (by kernel_rfl) (by kernel_rfl)
    rcases Bool.eq_false_or_eq_true (decide (B.n ≤ c)) with e2 | e2
    · have e : badHearB B c kind = true := by unfold badHearB; rw [e2, Bool.or_true, Bool.or_true]
      unfold hearBQ
      simp only [e]
      rcases g with rfl | rfl | rfl <;> exact callOK_run 400 [hC 6 5 c1, hB 6 6 _ _ e1, hI 6 10 IntKind.i64 _ _ w1, hC 6 12 c2, hB 6 13 _ _ e2] (by kernel_rfl) (by kernel_rfl)
    have e : badHearB B c kind = false := by
      unfold badHearB; rw [e1, e2]
      rcases g with rfl | rfl | rfl <;> rfl
    unfold hearBQ
    simp only [e]
    rcases g with rfl | rfl | rfl
    · show CallOK _ _ _ _ _ (.tup [.raw 1 0, eN (hbillQ B c ⟨6, key, k, amt, code⟩).e]) _
      rw [E1]
      exact callOK_run 400 [hC 6 5 c1, hB 6 6 _ _ e1, hI 6 10 IntKind.i64 _ _ w1, hC 6 12 c2, hB 6 13 _ _ e2, hC 8 1 h1] (by kernel_rfl) (by kernel_rfl)
    · exact callOK_run 400 [hC 6 5 c1, hB 6 6 _ _ e1, hI 6 10 IntKind.i64 _ _ w1, hC 6 12 c2, hB 6 13 _ _ e2, hC 8 1 h2] (by kernel_rfl) (by kernel_rfl)
    · exact callOK_run 400 [hC 6 5 c1, hB 6 6 _ _ e1, hI 6 10 IntKind.i64 _ _ w1, hC 6 12 c2, hB 6 13 _ _ e2, hC 8 1 h2] (by kernel_rfl) (by kernel_rfl)
  · have e : badHearB B c kind = true := by
      unfold badHearB
      have : (decide (6 ≤ kind) && decide (kind ≤ 8)) = false := by
        rw [Bool.and_eq_false_iff, decide_eq_false_iff_not, decide_eq_false_iff_not]
        by_cases h : 6 ≤ kind
        · exact .inr (by omega)
        · exact .inl h
      rw [this]; rfl
    unfold hearBQ
    simp only [e]
    have l1 := look_missJ 9 (P := Try.prog) (t := BFT) (c := true) (es := bhearEs c ⟨kind, key, k, amt, code⟩) (k := .u8) (x := kind) (ret := .tup [.val .nilFunc, .val (.bool false)]) (z := .nilFunc) Try.underlying103 Try.underlying5 (by kernel_rfl) (by kernel_rfl) (keyOf_u8 hm) (fun w => still_run (by kernel_rfl) w)
      (fun q hq e => g (by
        simp only [bhearEs, List.mem_cons, List.not_mem_nil, or_false] at hq
        rcases hq with rfl | rfl | rfl <;> (cases e; simp)))
      (fun _ => rfl) (by rfl) (by kernel_rfl)
    exact callOK_run 400 [hG 5 3 l1] (by kernel_rfl) (by kernel_rfl)
/-! ### over a book as one thing -/
theorem useOwn_docs (B : BookV) (k : Kid) (cmd : Int) : (useOwn B k cmd).b.docs = B.docs := by
  unfold useOwn
  dsimp only
  cases (lkt B.owns k).isSome <;> cases (((lkt B.owns k).getD own0).away || !decide (((lkt B.owns k).getD own0).k.l.c = B.self)) <;> cases decide ((nextI ((lkt B.owns k).getD own0).k.s cmd).2 = 0) <;> first | rfl | exact setO_docs B k _
theorem use_docs (B : BookV) (k : Kid) (cmd : Int) : (useQ B k cmd).b.docs = B.docs := by
  unfold useQ useHeld
  dsimp only
  cases useB cmd <;> cases decide (k.t.c = B.self) <;> cases (lkt B.helds k).isSome <;> cases ((lkt B.helds k).getD held0).here <;> cases decide ((nextI ((lkt B.helds k).getD held0).k.s cmd).2 = 0) <;> first | rfl | exact setH_docs B k _ | exact useOwn_docs B k cmd
theorem bill_docs (B : BookV) (k : Kid) (amt : Int) : (billQ B k amt).b.docs = B.docs := by
  unfold billQ
  dsimp only
  cases (lkt B.helds k).isSome <;> cases ((lkt B.helds k).getD held0).here <;> cases (!decide (((lkt B.helds k).getD held0).k.s = 4) || (((lkt B.helds k).getD held0).paid || ((lkt B.helds k).getD held0).billed)) <;> cases mayI amt <;> first | rfl | exact setH_docs B k _
theorem hbill_docs (B : BookV) (c : Int) (m : MsV) : (hbillQ B c m).b.docs = B.docs := by
  unfold hbillQ
  dsimp only
  cases (lkt B.owns m.key).isSome <;> cases ((lkt B.owns m.key).getD own0).away <;> cases decide (((lkt B.owns m.key).getD own0).dst = c) <;> cases ((lkt B.owns m.key).getD own0).paid <;> cases decide (((lkt B.owns m.key).getD own0).k.v = m.amt) <;> first | rfl | exact setO_docs B _ _
theorem hans_docs (B : BookV) (c : Int) (m : MsV) : (hansB B c m).docs = B.docs := by
  unfold hansB
  cases (isHeld B c m.key && ((lkt B.helds m.key).getD held0).billed) <;> first | rfl | exact setH_docs B _ _
theorem hearB_docs (B : BookV) (c : Int) (m : MsV) : (hearBQ B c m).b.docs = B.docs := by
  unfold hearBQ
  cases badHearB B c m.kind <;> cases decide (m.kind = 6) <;> first | rfl | exact hbill_docs B c m | exact hans_docs B c m
theorem use_c (B : BookV) {k : Kid} (hk : KidOk k) {cmd : Int} (hc : 0 ≤ cmd ∧ cmd ≤ 255) (hs : ∀ o, lkt B.owns k = some o → 0 ≤ o.k.s ∧ o.k.s ≤ 255) (hh : ∀ h, lkt B.helds k = some h → 0 ≤ h.k.s ∧ h.k.s ≤ 255) :
    CallOK Try.prog UseF [.ptr 0 0 0, .agg (kidS k), .val (.int .u8 cmd)] [] (bkC B) (.tup [.raw 1 0, eN (useQ B k cmd).e]) (bkC (useQ B k cmd).b ++ [((1, 0), outsC (useQ B k cmd).out)]) :=
  shutD (use_docs B k cmd) (outs_of (use_w (docsX B.docs) B hk hc hs hh)) rfl rfl rfl rfl
theorem bill_c (B : BookV) {k : Kid} (hk : KidOk k) (amt : Int) : CallOK Try.prog BillF [.ptr 0 0 0, .agg (kidS k), .val (.int .i64 amt)] [] (bkC B) (.tup [.raw 1 0, eN (billQ B k amt).e]) (bkC (billQ B k amt).b ++ [((1, 0), outsC (billQ B k amt).out)]) :=
  shutD (bill_docs B k amt) (outs_of (bill_w (docsX B.docs) B hk amt)) rfl rfl rfl rfl
theorem hearB_c (B : BookV) {c : Int} (hc : 0 ≤ c ∧ c ≤ 255) (m : MsV) (hm : 0 ≤ m.kind ∧ m.kind ≤ 255) (hk : KidOk m.key) : CallOK Try.prog BhearF [.ptr 0 0 0, .val (.int .u8 c), .agg (msS m)] [] (bkC B) (.tup [.raw 1 0, eN (hearBQ B c m).e]) (bkC (hearBQ B c m).b ++ [((1, 0), outsC (hearBQ B c m).out)]) :=
  shutD (hearB_docs B c m) (bhear_w (docsX B.docs) B hc m hm hk) rfl rfl rfl rfl
/-! ### no book -/
def nilPB : SV := .val (.pointer none)
theorem foundH_nilB (k : Kid) : CallOK Try.prog FoundH [nilPB, .fn (.func BheldsF) [] [], .agg (kidS k)] [] [] (.tup [.agg (heldS held0), eN 8]) [] := callOK_run 400 [] (by kernel_rfl) (by kernel_rfl)
theorem held_nilB (k : Kid) : CallOK Try.prog HeldF [nilPB, .agg (kidS k)] [] [] (.tup [.agg (heldS held0), eN 8]) [] := by
  have c1 := foundH_nilB k
  exact callOK_run 400 [hC 1 2 c1] (by kernel_rfl) (by kernel_rfl)
theorem use_nil (k : Kid) (cmd : Int) : CallOK Try.prog UseF [nilPB, .agg (kidS k), .val (.int .u8 cmd)] [] [] (.tup [nilS, eN 8]) [] := callOK_run 400 [] (by kernel_rfl) (by kernel_rfl)
theorem bill_nil (k : Kid) (amt : Int) : CallOK Try.prog BillF [nilPB, .agg (kidS k), .val (.int .i64 amt)] [] [] (.tup [nilS, eN 8]) [] := by
  have c1 := held_nilB k
  exact callOK_run 400 [hC 1 2 c1] (by kernel_rfl) (by kernel_rfl)
theorem hearB_nil (c : Int) (m : MsV) : CallOK Try.prog BhearF [nilPB, .val (.int .u8 c), .agg (msS m)] [] [] (.tup [nilS, eN 8]) [] := callOK_run 400 [] (by kernel_rfl) (by kernel_rfl)
end Go.Proofs.Ytlamaakconjkcaa
end
section
namespace Go.Proofs.Ytlamaakconjkcaa
set_option maxRecDepth 100000
open Go.RowKit Go.Lib Go.Tk Go.Shelf Go.Vc Go.Sx
set_option linter.unusedVariables false
set_option linter.unusedSimpArgs false

def kidE (x k : Kid) : Bool := (decide (x.t.c = k.t.c) && (decide (x.t.r = k.t.r) && true)) && (decide (x.i = k.i) && true)
theorem kidE_iff (x k : Kid) : kidE x k = decide (x = k) := by
  obtain ⟨⟨a, b⟩, c⟩ := x
  obtain ⟨⟨d, e⟩, f⟩ := k
  unfold kidE
  simp only [Bool.and_true]
  rw [Bool.eq_iff_iff]
  simp [and_assoc]
def okM (kind : Int) (k : Kid) (n : Int) (m : MsV) : Bool := decide (m.kind = kind) && (kidE m.key k && decide (m.k.n = n))
def cntM (kind : Int) (k : Kid) (n : Int) (l : List MsV) : Nat → Nat
  | 0 => 0
  | i + 1 => cntM kind k n l i + bif okM kind k n (l.getD i ⟨0, kid0, cpn0, 0, 0⟩) then 1 else 0
theorem cntM_le (kind : Int) (k : Kid) (n : Int) (l : List MsV) : ∀ i, cntM kind k n l i ≤ i
  | 0 => Nat.le_refl _
  | i + 1 => by
    have := cntM_le kind k n l i
    unfold cntM
    cases okM kind k n (l.getD i ⟨0, kid0, cpn0, 0, 0⟩) <;> simp <;> omega
def ctl0 (a : BookV) (k : Kid) : Nat := bif (lkt a.owns k).isSome && !((lkt a.owns k).getD own0).away then 1 else 0
def ctl1 (b : BookV) (k : Kid) : Nat := bif (lkt b.helds k).isSome && ((lkt b.helds k).getD held0).here then 1 else 0
def controlsN (a b : BookV) (k : Kid) (down up : List MsV) : Nat :=
  ctl0 a k + ctl1 b k + cntM 2 k ((lkt a.owns k).getD own0).k.n down down.length + cntM 5 k ((lkt a.owns k).getD own0).k.n up up.length
def MT : TypeId := 36
def msQ (l : List MsV) : CF := qF MT 12 msL l
theorem msL_len (m : MsV) : (msL m).length = 12 := rfl
theorem ms_nth {l : List MsV} {i : Nat} (h : i < l.length) (d : MsV) : ∀ (ε : Env) (q : Nat) (v : SV), (msS (l.getD i d))[q]? = some v → (cellsL msL l)[i * 12 + q]? = some (v.den ε) := cells_nth (fun _ _ => rfl) msL_len (getD_some h d)
end Go.Proofs.Ytlamaakconjkcaa
end
section
namespace Go.Proofs.Ytlamaakconjkcaa
set_option maxRecDepth 100000
open Go.RowKit Go.Lib Go.Tk Go.Shelf Go.Vc Go.Sx
set_option linter.unusedVariables false
set_option linter.unusedSimpArgs false

structure HSt where
  a : BookV
  b : BookV
  down : List MsV
  up : List MsV
def tA : Tid := ⟨0, 1⟩
def keyA (i : Int) : Kid := ⟨tA, i⟩
def outsM (l : List OutV) : List MsV := l.map (·.m)
/-- what an act does -/
def stepH (σ : HSt) (d i : Int) : HSt :=
  if d = 0 then { σ with b := (wantQ σ.b (keyA i)).b, up := σ.up ++ outsM (wantQ σ.b (keyA i)).out }
  else if d = 1 then { σ with b := (returnQ σ.b (keyA i)).b, up := σ.up ++ outsM (returnQ σ.b (keyA i)).out }
  else if d = 2 then { σ with a := (recallQ σ.a (keyA i)).b, down := σ.down ++ outsM (recallQ σ.a (keyA i)).out }
  else if d = 3 then match σ.down with
    | [] => σ
    | m :: l => { σ with b := (hearQ σ.b 0 m).b, down := l, up := σ.up ++ outsM (hearQ σ.b 0 m).out }
  else match σ.up with
    | [] => σ
    | m :: l => { σ with a := (hearQ σ.a 1 m).b, up := l, down := σ.down ++ outsM (hearQ σ.a 1 m).out }
/-- how many messages of a kind say something of a coupon -/
def nM (kind : Int) (k : Kid) : List MsV → Nat
  | [] => 0
  | m :: l => (if m.kind = kind ∧ m.key = k then 1 else 0) + nM kind k l
theorem nM_append (kind : Int) (k : Kid) (l r : List MsV) : nM kind k (l ++ r) = nM kind k l + nM kind k r := by
  induction l with
  | nil => simp [nM]
  | cons m l ih => simp only [List.cons_append, nM, ih]; omega
def keysA : List Kid := [keyA 0, keyA 1, keyA 2, keyA 3]
/-- how one coupon stands at both, and under way -/
structure One (σ : HSt) (k : Kid) : Prop where
  own : ∃ o, lkt σ.a.owns k = some o ∧
    (o.away = false → nM 2 k σ.down = 0 ∧ nM 5 k σ.up = 0 ∧ ((lkt σ.b.helds k).getD held0).here = false) ∧
    (o.away = true → o.dst = 1 ∧ nM 2 k σ.down + nM 5 k σ.up + (if ((lkt σ.b.helds k).getD held0).here = true then 1 else 0) = 1) ∧
    (∀ m ∈ σ.down, m.kind = 2 → m.key = k → m.k.n = o.k.n) ∧ (∀ m ∈ σ.up, m.kind = 5 → m.key = k → m.k.n = o.k.n) ∧
    (((lkt σ.b.helds k).getD held0).here = true → ((lkt σ.b.helds k).getD held0).k.n = o.k.n) ∧
    ((lkt σ.b.helds k).isSome = true → ((lkt σ.b.helds k).getD held0).k.n ≤ o.k.n) ∧
    (0 < nM 2 k σ.down → (lkt σ.b.helds k).isSome = true → ((lkt σ.b.helds k).getD held0).k.n < o.k.n) ∧ 0 ≤ o.k.n ∧ o.k.n ≤ 4294967295
structure InvH (σ : HSt) : Prop where
  one : ∀ k ∈ keysA, One σ k
  selfA : σ.a.self = 0 ∧ σ.a.n = 2
  selfB : σ.b.self = 1 ∧ σ.b.n = 2
  ownsA : ∀ k, (lkt σ.a.owns k).isSome = true → k ∈ keysA
  ownsB : σ.b.owns = []
  heldsA : σ.a.helds = []
  heldsB : (∀ k, (lkt σ.b.helds k).isSome = true → k ∈ keysA) ∧ (σ.b.helds.map (·.1)).Nodup
  downK : ∀ m ∈ σ.down, m.key ∈ keysA ∧ (m.kind = 2 ∨ m.kind = 3 ∨ m.kind = 4)
  upK : ∀ m ∈ σ.up, m.key ∈ keysA ∧ (m.kind = 1 ∨ m.kind = 3 ∨ m.kind = 5)
end Go.Proofs.Ytlamaakconjkcaa
end
section
namespace Go.Proofs.Ytlamaakconjkcaa
set_option maxRecDepth 100000
open Go.RowKit Go.Lib Go.Tk Go.Shelf Go.Vc Go.Sx
set_option linter.unusedVariables false
set_option linter.unusedSimpArgs false

structure Act16 where
  d : Int
  k : Kid
  frm : Int
  m : MsV
deriving Inhabited
def act16L (x : Act16) : List Value := .int .i64 x.d :: .int .u8 x.k.t.c :: .int .u64 x.k.t.r :: .int .u8 x.k.i :: .int .u8 x.frm :: msL x.m
def act16S (x : Act16) : List SV := .val (.int .i64 x.d) :: .val (.int .u8 x.k.t.c) :: .val (.int .u64 x.k.t.r) :: .val (.int .u8 x.k.i) :: .val (.int .u8 x.frm) :: msS x.m
theorem act16_len (x : Act16) : (act16L x).length = 17 := rfl
def act0 : Act16 := ⟨0, kid0, 0, ⟨0, kid0, cpn0, 0, 0⟩⟩
theorem act16_nth {l : List Act16} {i : Nat} (h : i < l.length) (d : Act16) : ∀ (ε : Env) (q : Nat) (v : SV), (act16S (l.getD i d))[q]? = some v → (cellsL act16L l)[i * 17 + q]? = some (v.den ε) := cells_nth (fun _ _ => rfl) act16_len (getD_some h d)
def atOf (x : Act16) : Int := Int.tmod x.k.i 5
def runH (σ : HSt) (l : List Act16) : Nat → HSt
  | 0 => σ
  | i + 1 => stepH (runH σ l i) (l.getD i act0).d (atOf (l.getD i act0))
/-- what is told by an act, an error, to whom -/
def outH (σ : HSt) (d i : Int) : List OutV :=
  if d = 0 then (wantQ σ.b (keyA i)).out else if d = 1 then (returnQ σ.b (keyA i)).out else if d = 2 then (recallQ σ.a (keyA i)).out
  else if d = 3 then match σ.down with
    | [] => []
    | m :: l => (hearQ σ.b 0 m).out
  else match σ.up with
    | [] => []
    | m :: l => (hearQ σ.a 1 m).out
def eH (σ : HSt) (d : Int) : Int :=
  if d = 0 then 0 else if d = 1 then 0 else if d = 2 then 0
  else if d = 3 then match σ.down with
    | [] => 0
    | m :: l => (hearQ σ.b 0 m).e
  else match σ.up with
    | [] => 0
    | m :: l => (hearQ σ.a 1 m).e
def toH (d : Int) : Int := if d = 0 then 0 else if d = 1 then 0 else if d = 2 then 1 else if d = 3 then 0 else 1
structure GoodH (σ : HSt) (d i : Int) : Prop where
  e : eH σ d = 0
  out : outH σ d i = [] ∨ ∃ x, outH σ d i = [x] ∧ x.dst = toH d
theorem outsM1 (x : OutV) : outsM [x] = [x.m] := rfl
def docB : List SV := docS (docMade tA sale16b) (.raw 1 6) (.raw 1 7) (.raw 1 8)
end Go.Proofs.Ytlamaakconjkcaa
end
section
namespace Go.Proofs.Ytlamaakconjkcaa
set_option maxRecDepth 100000
open Go.RowKit Go.Lib Go.Tk Go.Shelf Go.Vc Go.Sx
set_option linter.unusedVariables false
set_option linter.unusedSimpArgs false

def startH : HSt := ⟨(bookNew 0 2).issued sale16b, bookNew 1 2, [], []⟩
structure ActOk (x : Act16) : Prop where
  i : 0 ≤ x.k.i ∧ x.k.i ≤ 255
theorem atOf_in {x : Act16} (h : ActOk x) : 0 ≤ atOf x ∧ atOf x ≤ 4 := by
  have h1 := h.i.1
  unfold atOf
  rw [Int.tmod_eq_emod_of_nonneg h1]
  omega
end Go.Proofs.Ytlamaakconjkcaa
end
section
namespace Go.Proofs.Ytlamaakconjkcaa
set_option maxRecDepth 100000
open Go.RowKit Go.Lib Go.Tk Go.Shelf Go.Vc Go.Sx
set_option linter.unusedVariables false
set_option linter.unusedSimpArgs false

theorem own_at1 : ∃ v, lkt ((bookNew 0 3).issued sale16).owns (keyA 1) = some (ownNew ⟨1, 0, 1⟩ v) := by
  have hl : (shareV sale16.fare (wsOf sale16)).length = 2 := shareV_len (show shareE sale16.fare (wsOf sale16) = 0 by kernel_rfl)
  show ∃ v, lkt (issO (bookNew 0 3).nextT sale16 (shareV sale16.fare (wsOf sale16)) [] (shareV sale16.fare (wsOf sale16)).length) (keyA 1) = _
  rw [hl]
  generalize shareV sale16.fare (wsOf sale16) = vs
  exact ⟨vs.getD 1 0, rfl⟩
def wantB : BookV := { bookNew 1 3 with helds := [(keyA 1, wantH held0)] }
def heldK (v : Int) : Cpn := ⟨⟨1, 0, 1⟩, v, 1, 1⟩
def heldB (v : Int) : BookV := { bookNew 1 3 with helds := [(keyA 1, newH (heldK v))] }
def givenA (v : Int) : OwnV := ⟨heldK v, true, 1, false, false⟩
theorem keyA_ok {j : Int} (h1 : 0 ≤ j) (h2 : j ≤ 255) : KidOk (keyA j) := ⟨⟨⟨by show (0 : Int) ≤ 0; decide, by show (0 : Int) ≤ 255; decide⟩, by show (0 : Int) ≤ 1; decide, by show (1 : Int) ≤ _; decide⟩, h1, h2⟩
end Go.Proofs.Ytlamaakconjkcaa
end
