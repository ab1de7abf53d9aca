/- Ho3, SxR, Bk5. -/
import Derived.Test.YtlekbdpdlalhbaaGreatM40f5f42
import Derived.Test.YtlekbdpdlalhbaaGreatSxE
import Derived.Test.YtlekbdpdlalhbaaGreatM775458c
section
namespace Go.Proofs.YtlekbdpdlalhbaaGreat
set_option maxRecDepth 100000
open Go.RowKit Go.Lib Go.Tk Go.Shelf Go.Vc Go.Sx
set_option linter.unusedVariables false
set_option linter.unusedSimpArgs false

def hearB (c : Int) (m : MsV) : Heap := [((0, 4), .box none (hearS c m))]
def Hear1 : Nat := 69
def Hear2 : Nat := 71
def Hear3 : Nat := 73
def Hear4 : Nat := 75
def Hear5 : Nat := 77
theorem hear1_w (F : CF) (B : BookV) (c : Int) (m : MsV) (hk : KidOk m.key) : CallOK Tryz.prog Hear1 [.ptr 0 4 0] (hearB c m) (bkH F B) (.tup [.raw 1 0, eN 0]) (bkH F (hwantQ B c m.key).b ++ [((1, 0), outsC (hwantQ B c m.key).out)]) := by
  have c1 := outs_of (hwant_w F B c m hk)
  exact callOK_run 400 [hC 1 1 c1] (by kernel_rfl) (by kernel_rfl)
theorem hear2_w (F : CF) (B : BookV) (c : Int) (m : MsV) (hk : KidOk m.key) : CallOK Tryz.prog Hear2 [.ptr 0 4 0] (hearB c m) (bkH F B) (.tup [nilS, eN (hgrantQ B c m).e]) (bkH F (hgrantQ B c m).b) := by
  have c1 := hgrant_w F B c m hk
  exact callOK_run 400 [hC 1 1 c1] (by kernel_rfl) (by kernel_rfl)
theorem hear3_w (F : CF) (B : BookV) (c : Int) (m : MsV) (hk : KidOk m.key) : CallOK Tryz.prog Hear3 [.ptr 0 4 0] (hearB c m) (bkH F B) (.tup [nilS, eN 0]) (bkH F (hrefB B c m.key)) := by
  have c1 := hrefused_w F B c m hk
  exact callOK_run 400 [hC 1 1 c1] (by kernel_rfl) (by kernel_rfl)
theorem hear4_w (F : CF) (B : BookV) (c : Int) (m : MsV) (hk : KidOk m.key) : CallOK Tryz.prog Hear4 [.ptr 0 4 0] (hearB c m) (bkH F B) (.tup [.raw 1 0, eN 0]) (bkH F (hrecallQ B c m.key).b ++ [((1, 0), outsC (hrecallQ B c m.key).out)]) := by
  have c1 := outs_of (hrecall_w F B c m hk)
  exact callOK_run 400 [hC 1 1 c1] (by kernel_rfl) (by kernel_rfl)
theorem hear5_w (F : CF) (B : BookV) (c : Int) (m : MsV) (hk : KidOk m.key) : CallOK Tryz.prog Hear5 [.ptr 0 4 0] (hearB c m) (bkH F B) (.tup [nilS, eN 0]) (bkH F (hretB B c m)) := by
  have c1 := hreturned_w F B c m hk
  exact callOK_run 400 [hC 1 1 c1] (by kernel_rfl) (by kernel_rfl)
def hearDo (B : BookV) (c : Int) (m : MsV) : HR :=
  bif decide (m.kind = 1) then hwantQ B c m.key else bif decide (m.kind = 2) then ⟨[], (hgrantQ B c m).e, (hgrantQ B c m).b⟩ else bif decide (m.kind = 3) then ⟨[], 0, hrefB B c m.key⟩ else bif decide (m.kind = 4) then hrecallQ B c m.key else ⟨[], 0, hretB B c m⟩
def badHear (B : BookV) (c : Int) (kind : Int) : Bool := !(decide (1 ≤ kind) && decide (kind ≤ 5)) || (decide (c = B.self) || decide (B.n ≤ c))
def hearQ (B : BookV) (c : Int) (m : MsV) : HR := bif badHear B c m.kind then ⟨[], 1, B⟩ else hearDo B c m
theorem hwant_e (B : BookV) (c : Int) (k : Kid) : (hwantQ B c k).e = 0 := by
  unfold hwantQ
  dsimp only
  cases (lkt B.owns k).isSome <;> cases ((lkt B.owns k).getD own0).away <;> cases decide (((lkt B.owns k).getD own0).k.l.c = c) <;> cases decide (((lkt B.owns k).getD own0).k.s = 1) <;> cases decide (((lkt B.owns k).getD own0).k.n = 4294967295) <;> rfl
theorem hrecall_e (B : BookV) (c : Int) (k : Kid) : (hrecallQ B c k).e = 0 := by
  unfold hrecallQ
  dsimp only
  cases isHeld B c k <;> cases ((lkt B.helds k).getD held0).here <;> cases decide (((lkt B.helds k).getD held0).k.s = 1) <;> rfl
def HearF : Nat := 19
def FNT : TypeId := 148
def hearEs : List (Value × SV × Nat) := [(.int .u8 5, .fn (.func Hear5) [] [.ptr 0 4 0], 0), (.int .u8 4, .fn (.func Hear4) [] [.ptr 0 4 0], 0), (.int .u8 3, .fn (.func Hear3) [] [.ptr 0 4 0], 0), (.int .u8 2, .fn (.func Hear2) [] [.ptr 0 4 0], 0), (.int .u8 1, .fn (.func Hear1) [] [.ptr 0 4 0], 0)]
theorem keyOf_u8 {x : Int} (h : 0 ≤ x ∧ x ≤ 255) : ∃ l, keyOf Tryz.prog 5 (.int .u8 x) = some l := ⟨_, Go.Maps.keyOf_int_mk Tryz.underlying5 (wf_u8 h)⟩
theorem hear_w (F : CF) (B : BookV) {c : Int} (hc : 0 ≤ c ∧ c ≤ 255) (m : MsV) (hm : 0 ≤ m.kind ∧ m.kind ≤ 255) (hk : KidOk m.key) : CallOK Tryz.prog HearF [.ptr 0 0 0, .val (.int .u8 c), .agg (msS m)] [] (bkH F B) (.tup [.raw 1 0, eN (hearQ B c m).e]) (bkH F (hearQ B c m).b ++ [((1, 0), outsC (hearQ B c m).out)]) := by
  obtain ⟨kind, key, k, amt, code⟩ := m
  have c1 := self_w F B
  have c2 := carr_w F B
  have w1 : IntKind.i64.wrap c = c := wr_i64 (by omega)
  have h1 := hear1_w F B c ⟨kind, key, k, amt, code⟩ hk
  have h2 := hear2_w F B c ⟨kind, key, k, amt, code⟩ hk
  have h3 := hear3_w F B c ⟨kind, key, k, amt, code⟩ hk
  have h4 := hear4_w F B c ⟨kind, key, k, amt, code⟩ hk
  have h5 := hear5_w F B c ⟨kind, key, k, amt, code⟩ hk
  have E1 := hwant_e B c key
  have E4 := hrecall_e B c key
  by_cases g : kind = 1 ∨ kind = 2 ∨ kind = 3 ∨ kind = 4 ∨ kind = 5
  · rcases Bool.eq_false_or_eq_true (decide (c = B.self)) with e1 | e1
    · have e : badHear B c kind = true := by unfold badHear; rw [e1, Bool.true_or, Bool.or_true]
      unfold hearQ
      simp only [e]
      rcases g with rfl | rfl | rfl | rfl | rfl <;> exact callOK_run 400 [hC 6 5 c1, hB 6 6 _ _ e1] (by kernel_rfl) (by kernel_rfl)
    rcases Bool.eq_false_or_eq_true (decide (B.n ≤ c)) with e2 | e2
    · have e : badHear B c kind = true := by unfold badHear; rw [e2, Bool.or_true, Bool.or_true]
      unfold hearQ
      simp only [e]
      rcases g with rfl | rfl | rfl | rfl | rfl <;> exact callOK_run 400 [hC 6 5 c1, hB 6 6 _ _ e1, hI 6 10 IntKind.i64 _ _ w1, hC 6 12 c2, hB 6 13 _ _ e2] (by kernel_rfl) (by kernel_rfl)
    have e : badHear B c kind = false := by
      unfold badHear; rw [e1, e2]
      rcases g with rfl | rfl | rfl | rfl | rfl <;> rfl
    unfold hearQ
    simp only [e]
    rcases g with rfl | rfl | rfl | rfl | rfl
    · show CallOK _ _ _ _ _ (.tup [.raw 1 0, eN (hwantQ B c key).e]) _
      rw [E1]
      exact callOK_run 400 [hC 6 5 c1, hB 6 6 _ _ e1, hI 6 10 IntKind.i64 _ _ w1, hC 6 12 c2, hB 6 13 _ _ e2, hC 8 1 h1] (by kernel_rfl) (by kernel_rfl)
    · exact callOK_run 400 [hC 6 5 c1, hB 6 6 _ _ e1, hI 6 10 IntKind.i64 _ _ w1, hC 6 12 c2, hB 6 13 _ _ e2, hC 8 1 h2] (by kernel_rfl) (by kernel_rfl)
    · exact callOK_run 400 [hC 6 5 c1, hB 6 6 _ _ e1, hI 6 10 IntKind.i64 _ _ w1, hC 6 12 c2, hB 6 13 _ _ e2, hC 8 1 h3] (by kernel_rfl) (by kernel_rfl)
    · show CallOK _ _ _ _ _ (.tup [.raw 1 0, eN (hrecallQ B c key).e]) _
      rw [E4]
      exact callOK_run 400 [hC 6 5 c1, hB 6 6 _ _ e1, hI 6 10 IntKind.i64 _ _ w1, hC 6 12 c2, hB 6 13 _ _ e2, hC 8 1 h4] (by kernel_rfl) (by kernel_rfl)
    · exact callOK_run 400 [hC 6 5 c1, hB 6 6 _ _ e1, hI 6 10 IntKind.i64 _ _ w1, hC 6 12 c2, hB 6 13 _ _ e2, hC 8 1 h5] (by kernel_rfl) (by kernel_rfl)
  · have e : badHear B c kind = true := by
      unfold badHear
      have : (decide (1 ≤ kind) && decide (kind ≤ 5)) = false := by
        rw [Bool.and_eq_false_iff, decide_eq_false_iff_not, decide_eq_false_iff_not]
        by_cases h : 1 ≤ kind
        · exact .inr (by omega)
        · exact .inl h
      rw [this]; rfl
    unfold hearQ
    simp only [e]
    have l1 := look_missG (P := Tryz.prog) (t := FNT) (c := true) (es := hearEs) (k := .u8) (x := kind) (ret := .tup [.val .nilFunc, .val (.bool false)]) (z := .nilFunc) Tryz.underlying148 Tryz.underlying5 (by kernel_rfl) (by kernel_rfl) (keyOf_u8 hm) (fun w => still_run (by kernel_rfl) w)
      (fun q hq e => g (by
        simp only [hearEs, List.mem_cons, List.not_mem_nil, or_false] at hq
        rcases hq with rfl | rfl | rfl | rfl | rfl <;> (cases e; simp)))
      (fun _ => rfl) (by rfl) (by kernel_rfl)
    exact callOK_run 400 [hG 5 3 l1] (by kernel_rfl) (by kernel_rfl)
end Go.Proofs.YtlekbdpdlalhbaaGreat
end
section
namespace Go.Sx
set_option linter.unusedVariables false
set_option linter.unusedSimpArgs false
set_option linter.unusedSectionVars false
open Go.RowKit Go.Tk Go.Lib Go.Shelf Go.Vc Go.Maps
open Go.ChangeMaps (setBlock heap_setBlock_same)

section
variable {P : Program} {κ : Type} [DecidableEq κ] {kt t e : TypeId}
/-- the iterator stands at p -/
def CurAt (K : KeyKind P kt κ) (w : World) (r m : Nat) (p : κ × Value) : Prop :=
  ∃ es clock since seen e, w.heap[r]? = some (.mapIter (some m) since (Array.push seen e.born) clock) ∧ w.heap[m]? = some (.map es clock) ∧ e ∈ es.toList ∧ (es.toList.map (·.born)).Nodup ∧ e.key = K.kv p.1 ∧ e.val = p.2
theorem CurAt.entry {K : KeyKind P kt κ} {w : World} {r m : Nat} {p : κ × Value} (h : CurAt K w r m p) : (Instr.entry (.pointer (some ⟨r, 0, none⟩))).run P w = .ok (.tuple #[K.kv p.1, p.2]) w := by
  obtain ⟨es, clock, since, seen, e, h1, h2, h3, h4, h5, h6⟩ := h
  rw [run_entry_at w r m since seen es clock e h1 h2 h3 h4, h5, h6]
omit [DecidableEq κ] in
theorem Ranging.perm {K : KeyKind P kt κ} {w : World} {r b : Nat} {L left left' : List (κ × Value)} (h : Ranging K w r b L left) (hp : left.Perm left') : Ranging K w r b L left' := by
  obtain ⟨es, clock, since, seen, hne, hr, hb, h1, h2, h3, h4, h5, h6, h7, h8, h9⟩ := h
  exact ⟨es, clock, since, seen, hne, hr, hb, h1, h2, h3, h4, h5, h6, h7, h8.trans (hp.map _), fun p hp' => h9 p (hp.mem_iff.2 hp')⟩
end
end Go.Sx
end
section
namespace Go.Proofs.YtlekbdpdlalhbaaGreat
set_option maxRecDepth 100000
open Go.RowKit Go.Lib Go.Tk Go.Shelf Go.Vc Go.Sx
set_option linter.unusedVariables false
set_option linter.unusedSimpArgs false

/-- where a book's maps lie -/
structure BkA where
  d : Nat
  o : Nat
  h : Nat
def bookF (B : BookV) : CF := fun b _ => exC fun (a : BkA) => allC [boxE none b #[.int .u8 B.self, .int .i64 B.n, .map (some a.d), .map (some a.o), .map (some a.h)], docsX B.docs a.d undef, mapT kidK ownW B.owns a.o undef, mapT kidK heldW B.helds a.h undef]
def bkS (B : BookV) (s : Nat) : Heap := [((s, 0), .box none [.val (.int .u8 B.self), .val (.int .i64 B.n), .map s 1, .map s 2, .map s 3]), ((s, 1), .fam (docsX B.docs)), ((s, 2), ownsF B.owns), ((s, 3), heldsF B.helds)]
def bkC (B : BookV) : Heap := [((0, 0), .fam (bookF B))]
theorem bk_packs (B : BookV) : Packs (bookF B) (bkS B) 3 where
  opens := fun b v R w h => by
    obtain ⟨a, h1⟩ := h.ex
    have h2 := h1.all
    refine ⟨fun k => match k with
      | 0 => (b, v)
      | 1 => (a.d, undef)
      | 2 => (a.o, undef)
      | _ => (a.h, undef), rfl, fun ε he => ?_⟩
    have e0 := he 0 (by decide)
    have e1 := he 1 (by decide)
    have e2 := he 2 (by decide)
    have e3 := he 3 (by decide)
    simp only [bkS, hden, List.map_cons, List.map_nil, SC.den, SV.dens, SV.den, ownsF, heldsF, e0, e1, e2, e3]
    exact h2
  shuts := fun s ε R w h => by
    have h1 : Mem ([boxE none (ε s 0).1 #[.int .u8 B.self, .int .i64 B.n, .map (some (ε s 1).1), .map (some (ε s 2).1), .map (some (ε s 3).1)], docsX B.docs (ε s 1).1 undef, mapT kidK ownW B.owns (ε s 2).1 undef, mapT kidK heldW B.helds (ε s 3).1 undef] ++ R) w := h
    exact Mem.in_ex ⟨(ε s 1).1, (ε s 2).1, (ε s 3).1⟩ h1.in_all
/-- a contract over a book that lies open, over a book as one thing -/
theorem shut {f : Nat} {args : List SV} {rd post : Heap} {ret : SV} {B B' : BookV} (h : CallOK Tryz.prog f args rd (bkH (docsX B.docs) B) ret (bkH (docsX B'.docs) B' ++ post)) (h1 : SV.oks (noIn 3) args = true) (h2 : hok (noIn 3) rd = true) (h3 : ret.ok (noIn 3) = true) (h4 : hok (noIn 3) post = true) :
    CallOK Tryz.prog f args rd (bkC B) ret (bkC B' ++ post) := by
  have e : CallOK Tryz.prog f args [] (bkS B 0 ++ rd) ret (bkS B' 0 ++ (rd ++ post)) := by
    have h5 := (h.of_rd.pre_mono (pre' := bkS B 0 ++ rd) (fun ε R w hM => ?_)).post_mono (post' := bkS B' 0 ++ (rd ++ post)) (fun ε R w hM => ?_)
    · exact h5
    · rw [hden_append] at hM ⊢
      exact mem_perm (List.Perm.append_right R List.perm_append_comm) hM
    · rw [hden_append, hden_append] at hM
      rw [hden_append, hden_append]
      refine mem_perm (List.Perm.append_right R ?_) hM
      rw [← List.append_assoc, ← List.append_assoc]
      exact List.Perm.append_right _ List.perm_append_comm
  have h6 := CallOK.pack (bk_packs B) (bk_packs B') e h1 h2 h3 (by unfold hok at h2 h4 ⊢; rw [List.all_append, h2, h4]; rfl)
  refine CallOK.to_rd ((h6.pre_mono (pre' := rd ++ bkC B) (fun ε R w hM => ?_)).post_mono (post' := rd ++ (bkC B' ++ post)) (fun ε R w hM => ?_))
  · rw [hden_append] at hM
    have := mem_perm (List.Perm.append_right R List.perm_append_comm) hM
    exact this
  · have hM : Mem ((hden ε (bkC B') ++ hden ε (rd ++ post)) ++ R) w := hM
    rw [hden_append] at hM
    rw [hden_append, hden_append]
    refine mem_perm (List.Perm.append_right R ?_) hM
    rw [← List.append_assoc, ← List.append_assoc]
    exact List.Perm.append_right _ List.perm_append_comm
/-- what only reads -/
theorem shutR {f : Nat} {args : List SV} {ret : SV} {B : BookV} (h : CallOK Tryz.prog f args (bkH (docsX B.docs) B) [] ret []) (h1 : SV.oks (noIn 3) args = true) (h3 : ret.ok (noIn 3) = true) : CallOK Tryz.prog f args (bkC B) [] ret [] :=
  CallOK.to_rd (shut (B := B) (B' := B) (rd := []) (post := []) h.of_rd h1 rfl h3 rfl)
theorem own_c (B : BookV) {k : Kid} (hk : KidOk k) : CallOK Tryz.prog OwnF [.ptr 0 0 0, .agg (kidS k)] (bkC B) [] (.tup [.agg (ownS ((lkt B.owns k).getD own0)), eN (noneE (lkt B.owns k).isSome)]) [] := shutR (own_w (docsX B.docs) B hk) rfl rfl
theorem setO_docs (B : BookV) (k : Kid) (o : OwnV) : (B.setO k o).docs = B.docs := by unfold BookV.setO; cases (lkt B.owns k).isSome <;> rfl
theorem setH_docs (B : BookV) (k : Kid) (h : HeldV) : (B.setH k h).docs = B.docs := by unfold BookV.setH; cases decide (B.setHE k = 0) <;> rfl
theorem setOwn_c (B : BookV) {k : Kid} (hk : KidOk k) (o : OwnV) : CallOK Tryz.prog SetOwnF [.ptr 0 0 0, .agg (kidS k), .agg (ownS o)] [] (bkC B) (eN (noneE (lkt B.owns k).isSome)) (bkC (B.setO k o)) := by
  have h := setOwn_w (docsX B.docs) B hk o
  rw [← setO_docs B k o] at h
  exact shut (post := []) (by rw [setO_docs] at h; rw [setO_docs]; exact h) rfl rfl rfl rfl
theorem issue_noC (F : CF) {B : BookV} (hb : BookOk B) {s : SaleV} {A : SaleA} (ok : SaleOk s) (hl : ∀ b v, Rd (F b v) A.la (cellsL encLeg s.legs)) (ht : ∀ b v, Rd (F b v) A.ta (cellsL encTax s.taxes)) (h1 : SlOk A.la s.legs.length A.lc) (h2 : SlOk A.ta s.taxes.length A.tc) (hm : B.issE s ≠ 0) :
    CallOK Tryz.prog IssueF [.ptr 0 0 0, .agg (salS s (.val (.slice A.la s.legs.length A.lc)) (.val (.slice A.ta s.taxes.length A.tc)))] [((0, 9), .fam F)] (bkC B) (.tup [.agg (docS doc0 nilS nilS nilS), eN (B.issE s)]) (bkC B) :=
  shut (post := []) (B' := B) (issue_no F hb ok hl ht h1 h2 hm) rfl rfl rfl rfl
theorem issue_okC (F : CF) {B : BookV} (hb : BookOk B) {s : SaleV} {A : SaleA} (ok : SaleOk s) (hl : ∀ b v, Rd (F b v) A.la (cellsL encLeg s.legs)) (ht : ∀ b v, Rd (F b v) A.ta (cellsL encTax s.taxes)) (h1 : SlOk A.la s.legs.length A.lc) (h2 : SlOk A.ta s.taxes.length A.tc) (hm : B.issE s = 0) :
    CallOK Tryz.prog IssueF [.ptr 0 0 0, .agg (salS s (.val (.slice A.la s.legs.length A.lc)) (.val (.slice A.ta s.taxes.length A.tc)))] [((0, 9), .fam F)] (bkC B) (.tup [.agg (docS (docMade B.nextT s) (.raw 1 0) (.raw 1 1) (.raw 1 2)), eN 0]) (bkC (B.issued s) ++ docR (docMade B.nextT s)) :=
  shut (issue_ok F hb ok hl ht h1 h2 hm) rfl rfl rfl rfl
/-! ### a new book -/
def NewF : Nat := 23
def bookE (self n : Int) : Int := bif decide (n < 2) || (decide (8 < n) || decide (n ≤ self)) then 1 else 0
def bookNew (self n : Int) : BookV := ⟨self, n, [], [], []⟩
theorem obj_map {kt : TypeId} {κ : Type} {K : KeyKind Tryz.prog kt κ} {α : Type} {enc : α → Value} {b : Nat} {v : Value} {S : Nat → Prop} {w : World} (h : (objM b []).at_ S w) : (mapT K enc [] b v).at_ S w := by
  obtain ⟨hb, es, clock, h1, h2, -, h4, h5⟩ := h
  exact ⟨hb, es, clock, h1, h2, by simp [ents], by simp [ents], h4, h5⟩
theorem obj_docs {b : Nat} {v : Value} {S : Nat → Prop} {w : World} (h : (objM b []).at_ S w) : (docsX [] b v).at_ S w :=
  ⟨⟨[], rfl⟩, ⟨h.1, (obj_map (K := tidK) (enc := docW) (v := v) h).2⟩, fun _ => False, fun k hk => hk.elim, fun p hp => (by cases hp), fun p hp => (by cases hp)⟩
def newS (self n : Int) : Heap := [((1, 0), .box none [.val (.int .u8 self), .val (.int .i64 n), .map 1 1, .map 1 2, .map 1 3]), ((1, 1), .obj [] 0), ((1, 2), .obj [] 0), ((1, 3), .obj [] 0)]
theorem new_shut (self n : Int) (ε : Env) (R : List Chunk) (w : World) (h : Mem (hden ε (newS self n) ++ R) w) : Mem (bookF (bookNew self n) (ε 1 0).1 (ε 1 0).2 :: R) w := by
  refine (bk_packs (bookNew self n)).shuts 1 ε R w ?_
  have h0 : Mem (boxE none (ε 1 0).1 #[.int .u8 self, .int .i64 n, .map (some (ε 1 1).1), .map (some (ε 1 2).1), .map (some (ε 1 3).1)] :: objM (ε 1 1).1 [] :: objM (ε 1 2).1 [] :: objM (ε 1 3).1 [] :: R) w := h
  have h1 := (h0.front 1 rfl).weaken (c' := docsX [] (ε 1 1).1 (ε 1 1).2) (fun S hS => obj_docs hS)
  have h2 := (h1.front 2 rfl).weaken (c' := mapT kidK ownW [] (ε 1 2).1 (ε 1 2).2) (fun S hS => obj_map hS)
  have h3 := (h2.front 3 rfl).weaken (c' := mapT kidK heldW [] (ε 1 3).1 (ε 1 3).2) (fun S hS => obj_map hS)
  exact (((h3.front 0 rfl).front 1 rfl).front 2 rfl).front 3 rfl
theorem new_okC {self n : Int} (hs : 0 ≤ self ∧ self ≤ 255) (h : bookE self n = 0) : CallOK Tryz.prog NewF [.val (.int .u8 self), .val (.int .i64 n)] [] [] (.tup [.ptr 1 0 0, eN 0]) [((1, 0), .fam (bookF (bookNew self n)))] := by
  have w1 : IntKind.i64.wrap self = self := wr_i64 (by omega)
  have h0 : (decide (n < 2) || (decide (8 < n) || decide (n ≤ self))) = false := by
    cases hb : (decide (n < 2) || (decide (8 < n) || decide (n ≤ self))) with
    | false => rfl
    | true => unfold bookE at h; rw [hb] at h; cases h
  simp only [Bool.or_eq_false_iff] at h0
  obtain ⟨e1, e2, e3⟩ := h0
  have key : CallOK Tryz.prog NewF [.val (.int .u8 self), .val (.int .i64 n)] [] [] (.tup [.ptr 1 0 0, eN 0]) (newS self n) := callOK_run 400 [hB 1 1 _ _ e1, hB 1 4 _ _ e2, hI 1 8 IntKind.i64 _ _ w1, hB 1 10 _ _ e3] (by kernel_rfl) (by kernel_rfl)
  exact key.post_mono (post' := [((1, 0), .fam (bookF (bookNew self n)))]) (new_shut self n)
end Go.Proofs.YtlekbdpdlalhbaaGreat
end
