/- Ce3, Ex4, Ce4. -/
import Derived.Test.YtdnaegleifhmgaaGreatM7ce3b18
set_option maxRecDepth 100000
set_option linter.unusedVariables false
set_option linter.unusedSimpArgs false
set_option linter.unusedSectionVars false
section
namespace Go.Proofs.YtdnaegleifhmgaaGreat
open Go.RowKit Go.Lib Go.Tk Go.Shelf Go.Vc Go.Sx
def EachLF : Nat := 93
def vN (L : List (DocV × DocA)) (t : Tid) : Nat := (dAt L t).1.vals.length
theorem kid_at {t : Tid} (ht : TidOk t) {i : Nat} (h : i < 256) : KidOk ⟨t, (i : Int)⟩ := ⟨ht, by show 0 ≤ (i : Int); omega, by show (i : Int) ≤ 255; omega⟩
def toldN (S : SlipsV) (t : Tid) : Nat → List Value
  | 0 => []
  | i + 1 => toldN S t i ++ [.int .u8 (toldSt (sAt S ⟨t, (i : Int)⟩) t.c)]
def told1Fn : SV := .fn (.func Told1F) [] [.ptr 0 3 0, .ptr 0 4 0]
theorem each_told (L : List (DocV × DocA)) (B : LedV) {t : Tid} (ht : TidOk t) (amt : Int) (hn : vN L t ≤ 200) :
    CallOK Tryz.prog EachLF [.ptr 0 0 0, .agg (tidS t), told1Fn] (ledH (docsF L) B ++ [((0, 3), .box none (tidS t))]) [((0, 4), .box none (repS 0 t amt nilS))] noS [((0, 4), .box none (repS 0 t amt (.raw 1 0))), ((1, 0), stVn (vN L t) (toldN B.slips t (vN L t)))] := by
  refine callOK_intro (by kernel_rfl) fun eb R => ?_
  have c1 := look_docs0 L [] ht
  refine go_loop (X := { i : Nat // i ≤ vN L t }) 0 [] (fun x => ([(0, .ptr 0 0 0), (2, told1Fn), (4, .ptr 1 0 0), (14, .val (.int .i64 (vN L t : Int))), (15, .val (.int .i64 (x.1 : Int)))],
      (ledH (docsF L) B ++ [((0, 3), .box none (tidS t))]) ++ [((0, 4), .box none (repS 0 t amt (.raw 1 1))), ((1, 1), stVn x.1 (toldN B.slips t x.1)), ((1, 0), .box none (tidS t))]))
    (fun x => vN L t - x.1) ⟨0, Nat.zero_le _⟩ calNone false 400 [hG 1 5 c1] calNone_ok (by kernel_rfl) ?_
  rintro ⟨i, hi⟩ J hJ
  by_cases h : i < vN L t
  · have q1 : decide ((i : Int) < (vN L t : Int)) = true := decide_eq_true (by omega)
    have q2 : IntKind.u8.wrap (i : Int) = (i : Int) := wr_u8 (by omega)
    have q3 := look_slips0 B.slips (kid_at ht (i := i) (by omega))
    have q4 := told1_w (sAt B.slips ⟨t, (i : Int)⟩) t amt i (by omega) (toldN B.slips t i)
    have q5 : IntKind.i64.wrap ((i : Int) + 1) = ((i + 1 : Nat) : Int) := by rw [wr_i64 (by omega)]; omega
    exact leaf_next calNone false 400 [hB 2 0 _ _ q1, hI 4 7 IntKind.u8 _ _ q2, hG 4 9 q3, hC 4 10 q4, hI 5 0 IntKind.i64 _ _ q5] calNone_ok (hJ ⟨i + 1, h⟩ (by show _ - (i + 1) < _ - i; omega)) (by kernel_rfl)
  have he : i = vN L t := by omega
  subst he
  have q1 : decide ((vN L t : Int) < (vN L t : Int)) = false := decide_eq_false (by omega)
  exact leaf_end calNone false 400 [hB 2 0 _ _ q1] calNone_ok (by kernel_rfl)
def ToldLF : Nat := 91
theorem ctold_w (L : List (DocV × DocA)) (B : LedV) {t : Tid} (ht : TidOk t) (amt : Int) (hn : vN L t ≤ 200) :
    CallOK Tryz.prog ToldLF [.ptr 0 0 0, .agg (tidS t), .val (.int .i64 amt)] (ledH (docsF L) B) [] (.agg (repS 0 t amt (.raw 1 0))) [((1, 0), stVn (vN L t) (toldN B.slips t (vN L t)))] := by
  have c1 := each_told L B ht amt hn
  exact callOK_run 400 [hC 2 3 c1] (by kernel_rfl) (by kernel_rfl)
def SlipsKey (S : SlipsV) : Prop := ∀ k s, lkt S k = some s → s.p.key = k ∧ KidOk k
theorem SlipsKey.at_ {S : SlipsV} (h : SlipsKey S) (k : Kid) : KidOk (sAt S k).p.key := by
  unfold sAt
  cases e : lkt S k with
  | none => exact ⟨⟨⟨by decide, by decide⟩, by decide, by decide⟩, by decide, by decide⟩
  | some s => have := h k s e; show KidOk s.p.key; rw [this.1]; exact this.2
theorem cturn_key {S : SlipsV} (h : SlipsKey S) {s : SlipV} (hs : KidOk s.p.key) (x : Int) : SlipsKey (cturn S s x) := by
  unfold cturn
  cases s.free with
  | false => exact h
  | true =>
    intro k q hq
    rw [show (bif true then putt S s.p.key { s with p := { s.p with st := x } } else S) = putt S s.p.key { s with p := { s.p with st := x } } from rfl, lkt_put] at hq
    by_cases e : s.p.key = k
    · rw [if_pos e] at hq; cases hq; exact ⟨e, e ▸ hs⟩
    · rw [if_neg e] at hq; exact h k q hq
def cturnN (S : SlipsV) (t : Tid) (x : Int) : Nat → SlipsV
  | 0 => S
  | i + 1 => cturn (cturnN S t x i) (sAt (cturnN S t x i) ⟨t, (i : Int)⟩) x
theorem cturnN_key {S : SlipsV} (h : SlipsKey S) (t : Tid) (x : Int) : ∀ n, SlipsKey (cturnN S t x n)
  | 0 => h
  | n + 1 => cturn_key (cturnN_key h t x n) ((cturnN_key h t x n).at_ _) x
def LedV.setS (B : LedV) (S : SlipsV) : LedV := { B with slips := S }
def cturn1Fn : SV := .fn (.func Cturn1F) [] [.ptr 0 3 0, .ptr 0 4 0]
theorem each_cturn (L : List (DocV × DocA)) (B : LedV) (hk : SlipsKey B.slips) {t : Tid} (ht : TidOk t) (x : Int) (hn : vN L t ≤ 200) :
    CallOK Tryz.prog EachLF [.ptr 0 0 0, .agg (tidS t), cturn1Fn] [((0, 3), .box none [.val (.int .u8 x)]), ((0, 4), .box none [.ptr 0 0 0])] (ledH (docsF L) B) noS (ledH (docsF L) (B.setS (cturnN B.slips t x (vN L t)))) := by
  refine callOK_intro (by kernel_rfl) fun eb R => ?_
  have c1 := look_docs0 L [] ht
  refine go_loop (X := { i : Nat // i ≤ vN L t }) 0 [] (fun y => ([(0, .ptr 0 0 0), (2, cturn1Fn), (4, .ptr 1 0 0), (14, .val (.int .i64 (vN L t : Int))), (15, .val (.int .i64 (y.1 : Int)))],
      [((0, 3), .box none [.val (.int .u8 x)]), ((0, 4), .box none [.ptr 0 0 0])] ++ (ledH (docsF L) (B.setS (cturnN B.slips t x y.1)) ++ [((1, 0), .box none (tidS t))])))
    (fun y => vN L t - y.1) ⟨0, Nat.zero_le _⟩ calNone false 400 [hG 1 5 c1] calNone_ok (by kernel_rfl) ?_
  rintro ⟨i, hi⟩ J hJ
  by_cases h : i < vN L t
  · have q1 : decide ((i : Int) < (vN L t : Int)) = true := decide_eq_true (by omega)
    have q2 : IntKind.u8.wrap (i : Int) = (i : Int) := wr_u8 (by omega)
    have q3 := look_slips0 (cturnN B.slips t x i) (kid_at ht (i := i) (by omega))
    have q4 := cturn1_w (docsF L) (B.setS (cturnN B.slips t x i)) (sAt (cturnN B.slips t x i) ⟨t, (i : Int)⟩) ((cturnN_key hk t x i).at_ _) x
    have q5 : IntKind.i64.wrap ((i : Int) + 1) = ((i + 1 : Nat) : Int) := by rw [wr_i64 (by omega)]; omega
    exact leaf_next calNone false 400 [hB 2 0 _ _ q1, hI 4 7 IntKind.u8 _ _ q2, hG 4 9 q3, hC 4 10 q4, hI 5 0 IntKind.i64 _ _ q5] calNone_ok (hJ ⟨i + 1, h⟩ (by show _ - (i + 1) < _ - i; omega)) (by kernel_rfl)
  have he : i = vN L t := by omega
  subst he
  have q1 : decide ((vN L t : Int) < (vN L t : Int)) = false := decide_eq_false (by omega)
  exact leaf_end calNone false 400 [hB 2 0 _ _ q1] calNone_ok (by kernel_rfl)
def TurnLF : Nat := 95
theorem cturn_w (L : List (DocV × DocA)) (B : LedV) (hk : SlipsKey B.slips) {t : Tid} (ht : TidOk t) (x : Int) (hn : vN L t ≤ 200) :
    CallOK Tryz.prog TurnLF [.ptr 0 0 0, .agg (tidS t), .val (.int .u8 x)] [] (ledH (docsF L) B) noS (ledH (docsF L) (B.setS (cturnN B.slips t x (vN L t)))) := by
  have c1 := each_cturn L B hk ht x hn
  exact callOK_run 400 [hC 1 3 c1] (by kernel_rfl) (by kernel_rfl)
def cvoidN (S : SlipsV) (t : Tid) (b : Bool) : Nat → Bool
  | 0 => b
  | i + 1 => cvoidN S t b i && cvoid (sAt S ⟨t, (i : Int)⟩)
def cvoid1Fn : SV := .fn (.func Cvoid1F) [] [.ptr 0 3 0]
theorem each_cvoid (L : List (DocV × DocA)) (B : LedV) {t : Tid} (ht : TidOk t) (b : Bool) (hn : vN L t ≤ 200) :
    CallOK Tryz.prog EachLF [.ptr 0 0 0, .agg (tidS t), cvoid1Fn] (ledH (docsF L) B) [((0, 3), .box none [.val (.bool b)])] noS [((0, 3), .box none [.val (.bool (cvoidN B.slips t b (vN L t)))])] := by
  refine callOK_intro (by kernel_rfl) fun eb R => ?_
  have c1 := look_docs0 L [] ht
  refine go_loop (X := { i : Nat // i ≤ vN L t }) 0 [] (fun x => ([(0, .ptr 0 0 0), (2, cvoid1Fn), (4, .ptr 1 0 0), (14, .val (.int .i64 (vN L t : Int))), (15, .val (.int .i64 (x.1 : Int)))],
      (ledH (docsF L) B) ++ [((0, 3), .box none [.val (.bool (cvoidN B.slips t b x.1))]), ((1, 0), .box none (tidS t))]))
    (fun x => vN L t - x.1) ⟨0, Nat.zero_le _⟩ calNone false 400 [hG 1 5 c1] calNone_ok (by kernel_rfl) ?_
  rintro ⟨i, hi⟩ J hJ
  by_cases h : i < vN L t
  · have q1 : decide ((i : Int) < (vN L t : Int)) = true := decide_eq_true (by omega)
    have q2 : IntKind.u8.wrap (i : Int) = (i : Int) := wr_u8 (by omega)
    have q3 := look_slips0 B.slips (kid_at ht (i := i) (by omega))
    have q4 := cvoid1_w (sAt B.slips ⟨t, (i : Int)⟩) (cvoidN B.slips t b i)
    have q5 : IntKind.i64.wrap ((i : Int) + 1) = ((i + 1 : Nat) : Int) := by rw [wr_i64 (by omega)]; omega
    exact leaf_next calNone false 400 [hB 2 0 _ _ q1, hI 4 7 IntKind.u8 _ _ q2, hG 4 9 q3, hC 4 10 q4, hI 5 0 IntKind.i64 _ _ q5] calNone_ok (hJ ⟨i + 1, h⟩ (by show _ - (i + 1) < _ - i; omega)) (by kernel_rfl)
  have he : i = vN L t := by omega
  subst he
  have q1 : decide ((vN L t : Int) < (vN L t : Int)) = false := decide_eq_false (by omega)
  exact leaf_end calNone false 400 [hB 2 0 _ _ q1] calNone_ok (by kernel_rfl)
structure CG where
  n : Nat
  gl : List Value
  m : Nat
  kl : List Value
def cgstep (pen : Int) (s : SlipV) (σ : CG) : CG := bif s.free then ⟨σ.n + 1, σ.gl ++ [.int .i64 (giveV s.v pen)], σ.m + 1, σ.kl ++ [.int .i64 (giveK s.v pen)]⟩ else σ
def i64V' (n : Nat) (l : List Value) : SC := .row 2 1 n (.shal l) []
def Cgift1F : Nat := 125
def cgPre (σ : CG) : Heap := [((0, 5), .box none [.raw 0 7]), ((0, 7), i64V' σ.n σ.gl), ((0, 6), .box none [.raw 0 8]), ((0, 8), i64V' σ.m σ.kl)]
def cgPost (σ : CG) : Heap := [((0, 5), .box none [.raw 1 0]), ((1, 0), i64V' σ.n σ.gl), ((0, 6), .box none [.raw 1 1]), ((1, 1), i64V' σ.m σ.kl)]
def I64 (x : Int) : Prop := -9223372036854775808 ≤ x ∧ x ≤ 9223372036854775807
theorem cgift1_w (d : DocV) (a : DocA) (hp : d.s.pen ≤ 9223372036854775807) {s : SlipV} (hv : s.v ≤ 9223372036854775807) {σ : CG} (hn : σ.n + 1 ≤ 1073741824) (hm : σ.m + 1 ≤ 1073741824) :
    CallOK Tryz.prog Cgift1F [.agg (slipS s), .ptr 0 4 0, .ptr 0 5 0, .ptr 0 6 0] [((0, 4), .box none (docSA d a))] (cgPre σ) noS (cgPost (cgstep d.s.pen s σ)) := by
  have c1 := sfree_w s
  have c2 := tgive_w hv hp
  unfold cgstep
  rcases Bool.eq_false_or_eq_true s.free with e1 | e1 <;> simp only [e1] at c1 ⊢ <;> exact callOK_run 400 [hC 1 1 c1, hC 2 5 c2, .opt 3 3 (.le _ hn), .opt 3 7 (.le _ hm)] (by kernel_rfl) (by kernel_rfl)
end Go.Proofs.YtdnaegleifhmgaaGreat
end
section
namespace Go.Proofs.YtdnaegleifhmgaaGreat
open Go.RowKit Go.Lib Go.Tk Go.Shelf Go.Vc Go.Sx
theorem msum_raw {xs : List Int} (hm : xs.length ≤ 9223372036854775807) : CallOK Tryz.prog MSumF [.raw 0 0] [((0, 0), i64R xs.length xs)] [] (.tup [.val (.int .i64 (sumFrom 0 xs).1), eN (sumFrom 0 xs).2]) [] :=
  callOK_row1 rfl rfl fun F a c hR ok => msum_open F hR rfl hm
def OwnOk (o : OwnV) : Prop := -9223372036854775808 ≤ o.k.v ∧ o.k.v ≤ 9223372036854775807
theorem coupL_len (B : BookV) (t : Tid) : (coupL B t).length ≤ 4 := by
  rcases coupL_cases B t with ⟨e, h0⟩ | ⟨a, e, h0, h1⟩ | ⟨a, b, e, h0, h1, h2⟩ | ⟨a, b, c, e, h0, h1, h2, h3⟩ | ⟨a, b, c, x, e, h0, h1, h2, h3⟩ <;> rw [e] <;> simp
end Go.Proofs.YtdnaegleifhmgaaGreat
end
section
namespace Go.Proofs.YtdnaegleifhmgaaGreat
open Go.RowKit Go.Lib Go.Tk Go.Shelf Go.Vc Go.Sx
def CorF : Nat := 97
def cerrR (l : List SV) (n : Nat) : SC := .row 26 1 n (.deep l) []
theorem cor2_w (a b : Int) : CallOK Tryz.prog CorF [.raw 0 0] [((0, 0), cerrR [eN a, eN b] 2)] [] (eN (first2 a b)) [] := by
  unfold first2
  rcases Bool.eq_false_or_eq_true (decide (a = 0)) with e1 | e1
  · have f1 : (!decide (a = 0)) = false := by rw [e1]; rfl
    rw [e1]
    rcases Bool.eq_false_or_eq_true (decide (b = 0)) with e2 | e2
    · have f2 : (!decide (b = 0)) = false := by rw [e2]; rfl
      have z : b = 0 := of_decide_eq_true e2
      subst z
      exact callOK_runU 400 [hB 5 2 _ _ f1] (by kernel_rfl) (by kernel_rfl)
    · have f2 : (!decide (b = 0)) = true := by rw [e2]; rfl
      exact callOK_runU 400 [hB 5 2 _ _ f1, hB 5 2 _ _ f2] (by kernel_rfl) (by kernel_rfl)
  · have f1 : (!decide (a = 0)) = true := by rw [e1]; rfl
    rw [e1]
    exact callOK_runU 400 [hB 5 2 _ _ f1] (by kernel_rfl) (by kernel_rfl)
theorem cor3_w (a b c : Int) : CallOK Tryz.prog CorF [.raw 0 0] [((0, 0), cerrR [eN a, eN b, eN c] 3)] [] (eN (first2 a (first2 b c))) [] := by
  unfold first2
  rcases Bool.eq_false_or_eq_true (decide (a = 0)) with e1 | e1
  · have f1 : (!decide (a = 0)) = false := by rw [e1]; rfl
    rw [e1]
    rcases Bool.eq_false_or_eq_true (decide (b = 0)) with e2 | e2
    · have f2 : (!decide (b = 0)) = false := by rw [e2]; rfl
      rw [e2]
      rcases Bool.eq_false_or_eq_true (decide (c = 0)) with e3 | e3
      · have f3 : (!decide (c = 0)) = false := by rw [e3]; rfl
        have z : c = 0 := of_decide_eq_true e3
        subst z
        exact callOK_runU 400 [hB 5 2 _ _ f1, hB 5 2 _ _ f2] (by kernel_rfl) (by kernel_rfl)
      · have f3 : (!decide (c = 0)) = true := by rw [e3]; rfl
        exact callOK_runU 400 [hB 5 2 _ _ f1, hB 5 2 _ _ f2, hB 5 2 _ _ f3] (by kernel_rfl) (by kernel_rfl)
    · have f2 : (!decide (b = 0)) = true := by rw [e2]; rfl
      rw [e2]
      exact callOK_runU 400 [hB 5 2 _ _ f1, hB 5 2 _ _ f2] (by kernel_rfl) (by kernel_rfl)
  · have f1 : (!decide (a = 0)) = true := by rw [e1]; rfl
    rw [e1]
    exact callOK_runU 400 [hB 5 2 _ _ f1] (by kernel_rfl) (by kernel_rfl)
def cgN (pen : Int) (S : SlipsV) (t : Tid) (σ : CG) : Nat → CG
  | 0 => σ
  | i + 1 => cgstep pen (sAt S ⟨t, (i : Int)⟩) (cgN pen S t σ i)
theorem cgstep_le (pen : Int) (s : SlipV) (σ : CG) : (cgstep pen s σ).n ≤ σ.n + 1 ∧ (cgstep pen s σ).m ≤ σ.m + 1 := by
  unfold cgstep
  cases s.free
  · show σ.n ≤ _ ∧ σ.m ≤ _; omega
  · show σ.n + 1 ≤ _ ∧ σ.m + 1 ≤ _; omega
theorem cgN_le (pen : Int) (S : SlipsV) (t : Tid) (σ : CG) : ∀ i, (cgN pen S t σ i).n ≤ σ.n + i ∧ (cgN pen S t σ i).m ≤ σ.m + i
  | 0 => ⟨Nat.le_refl _, Nat.le_refl _⟩
  | i + 1 => by
    have h1 := cgN_le pen S t σ i
    have h2 := cgstep_le pen (sAt S ⟨t, (i : Int)⟩) (cgN pen S t σ i)
    show (cgstep pen _ _).n ≤ _ ∧ (cgstep pen _ _).m ≤ _
    omega
def SlipsI64 (S : SlipsV) : Prop := ∀ k s, lkt S k = some s → I64 s.v
theorem SlipsI64.at_ {S : SlipsV} (h : SlipsI64 S) (k : Kid) : I64 (sAt S k).v := by
  unfold sAt
  cases e : lkt S k with
  | none => exact ⟨by decide, by decide⟩
  | some s => exact h k s e
def cgift1Fn : SV := .fn (.func Cgift1F) [] [.ptr 0 4 0, .ptr 0 5 0, .ptr 0 6 0]
def cg0 (x : Int) : CG := ⟨1, [.int .i64 x], 0, []⟩
theorem each_cgift (L : List (DocV × DocA)) (B : LedV) (hv : SlipsI64 B.slips) {d : DocV} (a : DocA) (ht : TidOk d.t) (hp : d.s.pen ≤ 9223372036854775807) (hn : vN L d.t ≤ 200) :
    CallOK Tryz.prog EachLF [.ptr 0 0 0, .agg (tidS d.t), cgift1Fn] (ledH (docsF L) B ++ [((0, 4), .box none (docSA d a))]) [((0, 5), .box none [.raw 0 7]), ((0, 7), i64V' 1 [.int .i64 d.left]), ((0, 6), .box none [nilS])] noS (cgPost (cgN d.s.pen B.slips d.t (cg0 d.left) (vN L d.t))) := by
  refine callOK_intro (by kernel_rfl) fun eb R => ?_
  have c1 := look_docs0 L [] ht
  refine go_loop (X := { i : Nat // i ≤ vN L d.t }) 0 [] (fun x => ([(0, .ptr 0 0 0), (2, cgift1Fn), (4, .ptr 1 0 0), (14, .val (.int .i64 (vN L d.t : Int))), (15, .val (.int .i64 (x.1 : Int)))],
      (ledH (docsF L) B ++ [((0, 4), .box none (docSA d a))]) ++ [((0, 5), .box none [.raw 1 1]), ((1, 1), i64V' (cgN d.s.pen B.slips d.t (cg0 d.left) x.1).n (cgN d.s.pen B.slips d.t (cg0 d.left) x.1).gl), ((0, 6), .box none [.raw 1 2]), ((1, 2), i64V' (cgN d.s.pen B.slips d.t (cg0 d.left) x.1).m (cgN d.s.pen B.slips d.t (cg0 d.left) x.1).kl), ((1, 0), .box none (tidS d.t))]))
    (fun x => vN L d.t - x.1) ⟨0, Nat.zero_le _⟩ calNone false 400 [hG 1 5 c1] calNone_ok (by kernel_rfl) ?_
  rintro ⟨i, hi⟩ J hJ
  by_cases h : i < vN L d.t
  · have q1 : decide ((i : Int) < (vN L d.t : Int)) = true := decide_eq_true (by omega)
    have q2 : IntKind.u8.wrap (i : Int) = (i : Int) := wr_u8 (by omega)
    have q3 := look_slips0 B.slips (kid_at ht (i := i) (by omega))
    have l1 := cgN_le d.s.pen B.slips d.t (cg0 d.left) i
    have l2 : (cg0 d.left).n = 1 := rfl
    have l3 : (cg0 d.left).m = 0 := rfl
    have q4 := cgift1_w d a hp (hv.at_ ⟨d.t, (i : Int)⟩).2 (σ := cgN d.s.pen B.slips d.t (cg0 d.left) i) (by omega) (by omega)
    have q5 : IntKind.i64.wrap ((i : Int) + 1) = ((i + 1 : Nat) : Int) := by rw [wr_i64 (by omega)]; omega
    exact leaf_next calNone false 400 [hB 2 0 _ _ q1, hI 4 7 IntKind.u8 _ _ q2, hG 4 9 q3, hC 4 10 q4, hI 5 0 IntKind.i64 _ _ q5] calNone_ok (hJ ⟨i + 1, h⟩ (by show _ - (i + 1) < _ - i; omega)) (by kernel_rfl)
  have he : i = vN L d.t := by omega
  subst he
  have q1 : decide ((vN L d.t : Int) < (vN L d.t : Int)) = false := decide_eq_false (by omega)
  exact leaf_end calNone false 400 [hB 2 0 _ _ q1] calNone_ok (by kernel_rfl)
def freeN (S : SlipsV) (t : Tid) (n : Nat) : List SlipV := ((List.range n).map fun i : Nat => sAt S ⟨t, (i : Int)⟩).filter SlipV.free
def cgiveL (S : SlipsV) (d : DocV) (n : Nat) : List Int := d.left :: (freeN S d.t n).map fun s => giveV s.v d.s.pen
def ckeepL (S : SlipsV) (d : DocV) (n : Nat) : List Int := (freeN S d.t n).map fun s => giveK s.v d.s.pen
theorem freeN_succ (S : SlipsV) (t : Tid) (n : Nat) : freeN S t (n + 1) = freeN S t n ++ [sAt S ⟨t, (n : Int)⟩].filter SlipV.free := by
  unfold freeN
  rw [List.range_succ, List.map_append, List.filter_append]; rfl
theorem cgN_eq (S : SlipsV) (d : DocV) : ∀ n, cgN d.s.pen S d.t (cg0 d.left) n = ⟨(cgiveL S d n).length, (cgiveL S d n).map (.int .i64), (ckeepL S d n).length, (ckeepL S d n).map (.int .i64)⟩
  | 0 => rfl
  | n + 1 => by
    show cgstep d.s.pen _ (cgN d.s.pen S d.t (cg0 d.left) n) = _
    rw [cgN_eq S d n]
    unfold cgstep cgiveL ckeepL
    rw [freeN_succ]
    cases e : (sAt S ⟨d.t, (n : Int)⟩).free with
    | false => simp [e]
    | true => simp [e]
theorem freeN_len (S : SlipsV) (t : Tid) (n : Nat) : (freeN S t n).length ≤ n := by
  unfold freeN
  exact Nat.le_trans (List.length_filter_le _ _) (by simp)
structure CGift where
  g : Int
  k : Int
  many : Int
  e : Int
def cgiftV (S : SlipsV) (d : DocV) (n : Nat) : CGift := ⟨(sumFrom 0 (cgiveL S d n)).1, (sumFrom 0 (ckeepL S d n)).1, ((ckeepL S d n).length : Int), first2 (sumFrom 0 (cgiveL S d n)).2 (sumFrom 0 (ckeepL S d n)).2⟩
def CgiftsF : Nat := 96
def cgiftS (x : CGift) : List SV := [.val (.int .i64 x.g), .val (.int .i64 x.k), .val (.int .i64 x.many), eN x.e]
theorem cgifts_w (L : List (DocV × DocA)) (B : LedV) (hv : SlipsI64 B.slips) {d : DocV} (a : DocA) (ht : TidOk d.t) (hp : d.s.pen ≤ 9223372036854775807) (hn : vN L d.t ≤ 200) :
    CallOK Tryz.prog CgiftsF [.ptr 0 0 0, .agg (docSA d a)] (ledH (docsF L) B) [] (.tup (cgiftS (cgiftV B.slips d (vN L d.t)))) [] := by
  have c1 := each_cgift L B hv a ht hp hn
  rw [cgN_eq] at c1
  have hl := freeN_len B.slips d.t (vN L d.t)
  have lg : (cgiveL B.slips d (vN L d.t)).length ≤ 201 := by unfold cgiveL; rw [List.length_cons, List.length_map]; omega
  have lk : (ckeepL B.slips d (vN L d.t)).length ≤ 200 := by unfold ckeepL; rw [List.length_map]; omega
  have c2 := msum_raw (xs := cgiveL B.slips d (vN L d.t)) (by omega)
  have c3 := msum_raw (xs := ckeepL B.slips d (vN L d.t)) (by omega)
  have c4 := cor2_w (sumFrom 0 (cgiveL B.slips d (vN L d.t))).2 (sumFrom 0 (ckeepL B.slips d (vN L d.t))).2
  unfold cgiftV
  generalize cgiveL B.slips d (vN L d.t) = gl at *
  generalize ckeepL B.slips d (vN L d.t) = kl at *
  refine callOK_intro (by kernel_rfl) fun eb R => ?_
  refine leaf_cut (rgK Tryz.prog CgiftsF 2 []) [(0, .ptr 0 0 0), (3, .ptr 1 0 0), (8, .ptr 1 3 0), (9, .ptr 1 4 0)]
    ((ledH (docsF L) B) ++ [((1, 0), .box none (docSA d a)), ((1, 3), .box none [.raw 1 5]), ((1, 5), .row 2 1 1 (.deep [.val (.int .i64 d.left)]) []), ((1, 4), .box none [nilS])]) calNone false 400 [.stop 2] calNone_ok (by kernel_rfl) ?_
  refine go_open (X := Unit) (fun _ => ((ledH (docsF L) B) ++ [((1, 0), .box none (docSA d a)), ((1, 3), .box none [.raw 1 5]), ((1, 5), i64V' 1 [.int .i64 d.left]), ((1, 4), .box none [nilS])]))
    (fun ε w hM => ⟨(), hM⟩) (fun _ => by kernel_rfl) fun _ => ?_
  exact leaf_end calNone false 400 [hC 2 4 c1, hC 3 1 c2, hC 4 1 c3, hC 5 7 c4] calNone_ok (by kernel_rfl)
def OwnLF : Nat := 92
def ownLE (L : List (DocV × DocA)) (who : Int) (t : Tid) : Int := bif !(lkt (docKV L) t).isSome || (t.c != who) then 4 else 0
theorem ownL_w (L : List (DocV × DocA)) (B : LedV) {t : Tid} (ht : TidOk t) (who : Int) :
    CallOK Tryz.prog OwnLF [.ptr 0 0 0, .val (.int .u8 who), .agg (tidS t)] (ledH (docsF L) B) [] (.tup [.agg (docSA (dAt L t).1 (dAt L t).2), eN (ownLE L who t)]) [] := by
  have c1 := look_docs L [] ht
  unfold ownLE dAt
  rcases Bool.eq_false_or_eq_true (lkt (docKV L) t).isSome with e1 | e1 <;> rcases Bool.eq_false_or_eq_true (t.c != who) with e2 | e2 <;> simp only [e1] at c1 <;> simp only [e1, e2] <;> exact callOK_run 400 [hG 1 5 c1, hB 2 6 _ _ e2] (by kernel_rfl) (by kernel_rfl)
end Go.Proofs.YtdnaegleifhmgaaGreat
end
