/- Ex3, Ex4. -/
import Derived.Test.YtlekbdpdlalhbaaGreatM967e4a0
import Derived.Test.YtlekbdpdlalhbaaGreatMf8d58ad
section
namespace Go.Proofs.YtlekbdpdlalhbaaGreat
set_option maxRecDepth 100000
open Go.RowKit Go.Lib Go.Tk Go.Shelf Go.Vc Go.Sx
set_option linter.unusedVariables false
set_option linter.unusedSimpArgs false

/-! ### money -/
def MAddF : Nat := 157
def MSumF : Nat := 159
def GiveWF : Nat := 200
def PriceF : Nat := 114
theorem madd_w (a b : Int) : CallOK Tryz.prog MAddF [.val (.int .i64 a), .val (.int .i64 b)] [] [] (.tup [.val (.int .i64 (addI a b).1), eN (addI a b).2]) [] := callOK_pure fun ε w => add_any a b w
theorem tgive_w {v p : Int} (hv : v ≤ 9223372036854775807) (hp : p ≤ 9223372036854775807) : CallOK Tryz.prog GiveWF [.val (.int .i64 v), .val (.int .i64 p)] [] [] (.tup [.val (.int .i64 (giveV v p)), .val (.int .i64 (giveK v p))]) [] :=
  callOK_pure fun ε w => (give_any v p w hv hp).mono fun e w' ⟨h1, h2⟩ => ⟨h1, by subst h2; exact Below.refl _ _⟩
theorem msum_open (F : CF) {a : Option Addr} {n c : Nat} {xs : List Int} (hR : ∀ b v, Rd (F b v) a (xs.map (.int .i64))) (hn : xs.length = n) (hm : n ≤ 9223372036854775807) : CallOK Tryz.prog MSumF [.val (.slice a n c)] [((0, 0), .fam F)] [] (.tup [.val (.int .i64 (sumFrom 0 xs).1), eN (sumFrom 0 xs).2]) [] := by
  subst hn
  intro ε R w hM
  have hM : Mem (F (ε 0 0).1 (ε 0 0).2 :: R) w := hM
  refine (sum_any a c xs w ((hR _ _).row hM 0 rfl) hm).mono ?_
  rintro e w' ⟨rfl, hb⟩
  exact ⟨ε 1, rfl, by rw [eset_self]; exact hM.kept hb⟩
theorem price_F (F : CF) {s : SaleV} {A : SaleA} (ok : SaleOk s) (hl : ∀ b v, Rd (F b v) A.la (cellsL encLeg s.legs)) (ht : ∀ b v, Rd (F b v) A.ta (cellsL encTax s.taxes)) (h1 : A.la = none → A.lc = 0) (h2 : A.ta = none → A.tc = 0) :
    CallOK Tryz.prog PriceF [.agg (salS s (.val (.slice A.la s.legs.length A.lc)) (.val (.slice A.ta s.taxes.length A.tc)))] [((0, 9), .fam F)] [] (.tup [.val (.int .i64 (sumFrom 0 (priceL s)).1), eN (sumFrom 0 (priceL s)).2]) [] := by
  intro ε R w hM
  have hM : Mem (F (ε 0 9).1 (ε 0 9).2 :: R) w := hM
  have hs : SaleAt w s A := ⟨(hl _ _).row hM 0 rfl, (ht _ _).row hM 0 rfl, h1, h2⟩
  refine (price_any s A w hs ok).mono ?_
  rintro e w' ⟨rfl, hb⟩
  exact ⟨ε 1, rfl, by rw [eset_self]; exact hM.kept hb⟩
theorem callOK_rd {P : Program} {f : Nat} {args : List SV} {rd rd' pre post : Heap} {ret : SV} (he : ∀ ε, hden ε rd = hden ε rd') (h : CallOK P f args rd pre ret post) : CallOK P f args rd' pre ret post := fun ε R w hM => by
  rw [hden_append, ← he, ← hden_append] at hM
  refine (h ε R w hM).mono ?_
  rintro e w' ⟨x, h1, h2⟩
  exact ⟨x, h1, by rw [hden_append, ← he, ← hden_append]; exact h2⟩
def salRd (s : SaleV) : Heap := [((0, 10), legR s.legs.length s.legs), ((0, 11), taxR s.taxes.length s.taxes)]
theorem sal_rd (s : SaleV) (ε : Env) : hden ε [((0, 10), legD s.legs.length s.legs), ((0, 11), taxD s.taxes.length s.taxes)] = hden ε (salRd s) := by
  simp only [hden, List.map_cons, List.map_nil, salRd, legD, taxD, legR, taxR, SC.den, SL.den, legs_dens, taxes_dens]
theorem price_D {s : SaleV} (ok : SaleOk s) : CallOK Tryz.prog PriceF [.agg (salS s (.raw 0 10) (.raw 0 11))] [((0, 10), legD s.legs.length s.legs), ((0, 11), taxD s.taxes.length s.taxes)] [] (.tup [.val (.int .i64 (sumFrom 0 (priceL s)).1), eN (sumFrom 0 (priceL s)).2]) [] :=
  raw2 (args := fun x y => [.agg (salS s x y)]) (fun ε ε' x y x' y' h1 h2 h3 => by simp only [SV.dens, SV.den, salS, h1, h2]) (fun F A hl ht h1 h2 => price_F F ok hl ht (fun e => (h1.nil e).2) (fun e => (h2.nil e).2)) rfl rfl rfl
theorem price_R {s : SaleV} (ok : SaleOk s) : CallOK Tryz.prog PriceF [.agg (salS s (.raw 0 10) (.raw 0 11))] (salRd s) [] (.tup [.val (.int .i64 (sumFrom 0 (priceL s)).1), eN (sumFrom 0 (priceL s)).2]) [] := callOK_rd (sal_rd s) (price_D ok)
/-! ### replies -/
def repS (e : Int) (t : Tid) (amt : Int) (st : SV) : List SV := [eN e, .val (.int .u8 t.c), .val (.int .u64 t.r), .val (.int .i64 amt), st]
def FailedF : Nat := 116
def ToldF : Nat := 117
def FirstF : Nat := 115
theorem failed_w (e : Int) : CallOK Tryz.prog FailedF [eN e] [] [] (.tup [.agg (repS e tid0 0 nilS), eN e]) [] := callOK_run 400 [] (by kernel_rfl) (by kernel_rfl)
theorem told_w (B : BookV) {t : Tid} (ht : TidOk t) (amt : Int) : CallOK Tryz.prog ToldF [.ptr 0 0 0, .agg (tidS t), .val (.int .i64 amt)] (bkC B) [] (.tup [.agg (repS 0 t amt (.raw 1 0)), eN 0]) [((1, 0), stC (statusL B t))] := by
  have c1 := status_c B ht
  exact callOK_run 400 [hC 1 4 c1] (by kernel_rfl) (by kernel_rfl)
def errR (l : List SV) (n : Nat) : SC := .row 44 1 n (.deep l) []
def first2 (a b : Int) : Int := bif decide (a = 0) then b else a
theorem first2_w (a b : Int) : CallOK Tryz.prog FirstF [.raw 0 0] [((0, 0), errR [eN a, eN b] 2)] [] (eN (first2 a b)) [] := by
  unfold first2
  rcases Bool.eq_false_or_eq_true (decide (a = 0)) with e1 | e1
  · have f1 : (!decide (a = 0)) = false := by rw [e1]; rfl
    rw [e1]
    rcases Bool.eq_false_or_eq_true (decide (b = 0)) with e2 | e2
    · have f2 : (!decide (b = 0)) = false := by rw [e2]; rfl
      have z : b = 0 := of_decide_eq_true e2
      subst z
      exact callOK_runU 400 [hB 4 1 _ _ f1] (by kernel_rfl) (by kernel_rfl)
    · have f2 : (!decide (b = 0)) = true := by rw [e2]; rfl
      exact callOK_runU 400 [hB 4 1 _ _ f1, hB 4 1 _ _ f2] (by kernel_rfl) (by kernel_rfl)
  · have f1 : (!decide (a = 0)) = true := by rw [e1]; rfl
    rw [e1]
    exact callOK_runU 400 [hB 4 1 _ _ f1] (by kernel_rfl) (by kernel_rfl)
theorem first3_w (a b c : Int) : CallOK Tryz.prog FirstF [.raw 0 0] [((0, 0), errR [eN a, eN b, eN c] 3)] [] (eN (first2 a (first2 b c))) [] := by
  unfold first2
  rcases Bool.eq_false_or_eq_true (decide (a = 0)) with e1 | e1
  · have f1 : (!decide (a = 0)) = false := by rw [e1]; rfl
    rw [e1]
    rcases Bool.eq_false_or_eq_true (decide (b = 0)) with e2 | e2
    · have f2 : (!decide (b = 0)) = false := by rw [e2]; rfl
      rw [e2]
      rcases Bool.eq_false_or_eq_true (decide (c = 0)) with e3 | e3
      · have f3 : (!decide (c = 0)) = false := by rw [e3]; rfl
        have z : c = 0 := of_decide_eq_true e3
        subst z
        exact callOK_runU 400 [hB 4 1 _ _ f1, hB 4 1 _ _ f2] (by kernel_rfl) (by kernel_rfl)
      · have f3 : (!decide (c = 0)) = true := by rw [e3]; rfl
        exact callOK_runU 400 [hB 4 1 _ _ f1, hB 4 1 _ _ f2, hB 4 1 _ _ f3] (by kernel_rfl) (by kernel_rfl)
    · have f2 : (!decide (b = 0)) = true := by rw [e2]; rfl
      rw [e2]
      exact callOK_runU 400 [hB 4 1 _ _ f1, hB 4 1 _ _ f2] (by kernel_rfl) (by kernel_rfl)
  · have f1 : (!decide (a = 0)) = true := by rw [e1]; rfl
    rw [e1]
    exact callOK_runU 400 [hB 4 1 _ _ f1] (by kernel_rfl) (by kernel_rfl)
def freeO (o : OwnV) : Bool := !o.away && decide (o.k.s = 1)
def EfreeF : Nat := 162
theorem efree_w (o : OwnV) : CallOK Tryz.prog EfreeF [.agg (ownS o)] [] [] (.val (.bool (freeO o))) [] := by
  have c1 := free_w o.k.s
  unfold freeO
  rcases Bool.eq_false_or_eq_true o.away with e1 | e1 <;> rcases Bool.eq_false_or_eq_true (decide (o.k.s = 1)) with e2 | e2 <;> simp only [e1, e2] <;> exact callOK_run 400 [hB 1 1 _ _ e1, hC 1 7 c1, hB 1 7 _ _ e2] (by kernel_rfl) (by kernel_rfl)
/-! ### the free coupons of a ticket become something else -/
def asO (o : OwnV) (s : Int) : OwnV := { o with k := { o.k with s := s } }
def turn1 (B : BookV) (k : Kid) (o : OwnV) (s : Int) : BookV := bif freeO o then B.setO k (asO o s) else B
def Turn1F : Nat := 201
def EachF : Nat := 160
def TurnF : Nat := 158
def turnRd (s : Int) : Heap := [((0, 1), .box none [.val (.int .u8 s)]), ((0, 2), .box none [.ptr 0 0 0])]
theorem turn1_w (B : BookV) {k : Kid} (hk : KidOk k) (o : OwnV) (s : Int) : CallOK Tryz.prog Turn1F [.agg (kidS k), .agg (ownS o), .ptr 0 1 0, .ptr 0 2 0] (turnRd s) (bkC B) noS (bkC (turn1 B k o s)) := by
  have c1 := efree_w o
  have c2 := setOwn_c B hk (asO o s)
  unfold turn1
  rcases Bool.eq_false_or_eq_true (freeO o) with e1 | e1 <;> simp only [e1] at c1 ⊢ <;> exact callOK_run 400 [hC 1 1 c1, hC 3 3 c2] (by kernel_rfl) (by kernel_rfl)
theorem lkt_turn1 {B : BookV} {k k' : Kid} {o : OwnV} {s : Int} (h : k ≠ k') : lkt (turn1 B k o s).owns k' = lkt B.owns k' := by
  unfold turn1 BookV.setO
  cases freeO o <;> cases (lkt B.owns k).isSome <;> first | rfl | (show lkt (putt B.owns k _) k' = _; rw [lkt_put, if_neg h])
def turnL (s : Int) (t : Tid) : BookV → Int → List OwnV → BookV
  | B, _, [] => B
  | B, i, o :: l => turnL s t (turn1 B ⟨t, i⟩ o s) (i + 1) l
def turnB (B : BookV) (t : Tid) (s : Int) : BookV := turnL s t B 0 (coupL B t)
def turnFn : SV := .fn (.func Turn1F) [] [.ptr 0 1 0, .ptr 0 2 0]
theorem each_turn (B : BookV) {t : Tid} (ht : TidOk t) (s : Int) : CallOK Tryz.prog EachF [.ptr 0 0 0, .agg (tidS t), turnFn] (turnRd s) (bkC B) noS (bkC (turnB B t s)) := by
  have st := status_d B ht
  have k0 := kidOk_at ht (i := 0) (by decide) (by decide)
  have k1 := kidOk_at ht (i := 1) (by decide) (by decide)
  have k2 := kidOk_at ht (i := 2) (by decide) (by decide)
  have k3 := kidOk_at ht (i := 3) (by decide) (by decide)
  have n01 : (⟨t, 0⟩ : Kid) ≠ ⟨t, 1⟩ := fun e => by cases e
  have n02 : (⟨t, 0⟩ : Kid) ≠ ⟨t, 2⟩ := fun e => by cases e
  have n03 : (⟨t, 0⟩ : Kid) ≠ ⟨t, 3⟩ := fun e => by cases e
  have n12 : (⟨t, 1⟩ : Kid) ≠ ⟨t, 2⟩ := fun e => by cases e
  have n13 : (⟨t, 1⟩ : Kid) ≠ ⟨t, 3⟩ := fun e => by cases e
  have n23 : (⟨t, 2⟩ : Kid) ≠ ⟨t, 3⟩ := fun e => by cases e
  have c0 := own_c B k0
  unfold turnB
  rcases coupL_cases B t with ⟨e, h0⟩ | ⟨a, e, h0, h1⟩ | ⟨a, b, e, h0, h1, h2⟩ | ⟨a, b, c, e, h0, h1, h2, h3⟩ | ⟨a, b, c, d, e, h0, h1, h2, h3⟩
  · rw [e] at st ⊢
    exact callOK_runU 900 [hC 1 2 st] (by kernel_rfl) (by kernel_rfl)
  · rw [e] at st ⊢
    rw [h0] at c0
    have t0 := turn1_w B k0 a s
    exact callOK_runU 900 [hC 1 2 st, hC 5 2 c0, hC 7 3 t0] (by kernel_rfl) (by kernel_rfl)
  · rw [e] at st ⊢
    rw [h0] at c0
    have t0 := turn1_w B k0 a s
    have c1 := own_c (turn1 B ⟨t, 0⟩ a s) k1
    rw [lkt_turn1 n01, h1] at c1
    have t1 := turn1_w (turn1 B ⟨t, 0⟩ a s) k1 b s
    exact callOK_runU 900 [hC 1 2 st, hC 5 2 c0, hC 7 3 t0, hC 5 2 c1, hC 7 3 t1] (by kernel_rfl) (by kernel_rfl)
  · rw [e] at st ⊢
    rw [h0] at c0
    have t0 := turn1_w B k0 a s
    have c1 := own_c (turn1 B ⟨t, 0⟩ a s) k1
    rw [lkt_turn1 n01, h1] at c1
    have t1 := turn1_w (turn1 B ⟨t, 0⟩ a s) k1 b s
    have c2 := own_c (turn1 (turn1 B ⟨t, 0⟩ a s) ⟨t, 1⟩ b s) k2
    rw [lkt_turn1 n12, lkt_turn1 n02, h2] at c2
    have t2 := turn1_w (turn1 (turn1 B ⟨t, 0⟩ a s) ⟨t, 1⟩ b s) k2 c s
    exact callOK_runU 900 [hC 1 2 st, hC 5 2 c0, hC 7 3 t0, hC 5 2 c1, hC 7 3 t1, hC 5 2 c2, hC 7 3 t2] (by kernel_rfl) (by kernel_rfl)
  · rw [e] at st ⊢
    rw [h0] at c0
    have t0 := turn1_w B k0 a s
    have c1 := own_c (turn1 B ⟨t, 0⟩ a s) k1
    rw [lkt_turn1 n01, h1] at c1
    have t1 := turn1_w (turn1 B ⟨t, 0⟩ a s) k1 b s
    have c2 := own_c (turn1 (turn1 B ⟨t, 0⟩ a s) ⟨t, 1⟩ b s) k2
    rw [lkt_turn1 n12, lkt_turn1 n02, h2] at c2
    have t2 := turn1_w (turn1 (turn1 B ⟨t, 0⟩ a s) ⟨t, 1⟩ b s) k2 c s
    have c3 := own_c (turn1 (turn1 (turn1 B ⟨t, 0⟩ a s) ⟨t, 1⟩ b s) ⟨t, 2⟩ c s) k3
    rw [lkt_turn1 n23, lkt_turn1 n13, lkt_turn1 n03, h3] at c3
    have t3 := turn1_w (turn1 (turn1 (turn1 B ⟨t, 0⟩ a s) ⟨t, 1⟩ b s) ⟨t, 2⟩ c s) k3 d s
    exact callOK_runU 900 [hC 1 2 st, hC 5 2 c0, hC 7 3 t0, hC 5 2 c1, hC 7 3 t1, hC 5 2 c2, hC 7 3 t2, hC 5 2 c3, hC 7 3 t3] (by kernel_rfl) (by kernel_rfl)
theorem turn_w (B : BookV) {t : Tid} (ht : TidOk t) (s : Int) : CallOK Tryz.prog TurnF [.ptr 0 0 0, .agg (tidS t), .val (.int .u8 s)] [] (bkC B) noS (bkC (turnB B t s)) := by
  have c1 := each_turn B ht s
  exact callOK_run 400 [hC 1 3 c1] (by kernel_rfl) (by kernel_rfl)
end Go.Proofs.YtlekbdpdlalhbaaGreat
end
section
namespace Go.Proofs.YtlekbdpdlalhbaaGreat
set_option maxRecDepth 100000
open Go.RowKit Go.Lib Go.Tk Go.Shelf Go.Vc Go.Sx
set_option linter.unusedVariables false
set_option linter.unusedSimpArgs false

theorem msum_raw {xs : List Int} (hm : xs.length ≤ 9223372036854775807) : CallOK Tryz.prog MSumF [.raw 0 0] [((0, 0), i64R xs.length xs)] [] (.tup [.val (.int .i64 (sumFrom 0 xs).1), eN (sumFrom 0 xs).2]) [] :=
  callOK_row1 rfl rfl fun F a c hR ok => msum_open F hR rfl hm
/-- what was gathered: given, kept, how many -/
structure GS where
  n : Nat
  gl : List Value
  m : Nat
  kl : List Value
  many : Int
def gstep (pen : Int) (o : OwnV) (σ : GS) : GS := bif freeO o then ⟨σ.n + 1, σ.gl ++ [.int .i64 (giveV o.k.v pen)], σ.m + 1, σ.kl ++ [.int .i64 (giveK o.k.v pen)], σ.many + 1⟩ else σ
def i64V (n : Nat) (l : List Value) : SC := .row 2 1 n (.shal l) []
def giftS (g k many e : Int) : List SV := [.val (.int .i64 g), .val (.int .i64 k), .val (.int .i64 many), eN e]
def giftRd (d : DocV) : Heap := [((0, 1), .box none (docS d (.raw 0 10) (.raw 0 11) (.raw 0 12)))]
def giftPre (σ : GS) : Heap := [((0, 2), .box none [.raw 0 5]), ((0, 5), i64V σ.n σ.gl), ((0, 3), .box none [.raw 0 6]), ((0, 6), i64V σ.m σ.kl), ((0, 4), .box none (giftS 0 0 σ.many 0))]
def giftPost (σ : GS) : Heap := [((0, 2), .box none [.raw 1 0]), ((1, 0), i64V σ.n σ.gl), ((0, 3), .box none [.raw 1 1]), ((1, 1), i64V σ.m σ.kl), ((0, 4), .box none (giftS 0 0 σ.many 0))]
def Gift1F : Nat := 199
def OwnOk (o : OwnV) : Prop := -9223372036854775808 ≤ o.k.v ∧ o.k.v ≤ 9223372036854775807
theorem gift1_w (d : DocV) (hp : d.s.pen ≤ 9223372036854775807) (k : Kid) {o : OwnV} (ho : OwnOk o) {σ : GS} (hn : σ.n + 1 ≤ 1073741824) (hm : σ.m + 1 ≤ 1073741824) (hc : 0 ≤ σ.many ∧ σ.many ≤ 100) :
    CallOK Tryz.prog Gift1F [.agg (kidS k), .agg (ownS o), .ptr 0 1 0, .ptr 0 2 0, .ptr 0 3 0, .ptr 0 4 0] (docI d ++ giftRd d) (giftPre σ) noS (giftPost (gstep d.s.pen o σ)) := by
  have c1 := efree_w o
  have c2 := tgive_w ho.2 hp
  have w1 : IntKind.i64.wrap (σ.many + 1) = σ.many + 1 := wr_i64 (by omega)
  unfold gstep
  rcases Bool.eq_false_or_eq_true (freeO o) with e1 | e1 <;> simp only [e1] at c1 ⊢ <;> exact callOK_run 400 [hC 1 1 c1, hC 2 6 c2, .opt 3 3 (.le _ hn), .opt 3 7 (.le _ hm), hI 4 2 IntKind.i64 _ _ w1] (by kernel_rfl) (by kernel_rfl)
def giftFn : SV := .fn (.func Gift1F) [] [.ptr 0 1 0, .ptr 0 2 0, .ptr 0 3 0, .ptr 0 4 0]
def gfold (pen : Int) : GS → List OwnV → GS
  | σ, [] => σ
  | σ, o :: l => gfold pen (gstep pen o σ) l
theorem gstep_le (pen : Int) (o : OwnV) (σ : GS) : (gstep pen o σ).n ≤ σ.n + 1 ∧ (gstep pen o σ).m ≤ σ.m + 1 ∧ σ.many ≤ (gstep pen o σ).many ∧ (gstep pen o σ).many ≤ σ.many + 1 := by
  unfold gstep
  cases freeO o
  · show σ.n ≤ _ ∧ σ.m ≤ _ ∧ σ.many ≤ σ.many ∧ σ.many ≤ _; omega
  · show σ.n + 1 ≤ _ ∧ σ.m + 1 ≤ _ ∧ σ.many ≤ σ.many + 1 ∧ σ.many + 1 ≤ _; omega
theorem each_gift (B : BookV) {d : DocV} (ht : TidOk d.t) (hp : d.s.pen ≤ 9223372036854775807) (ho : ∀ o ∈ coupL B d.t, OwnOk o) {σ : GS} (hn : σ.n ≤ 1000) (hm : σ.m ≤ 1000) (hc : σ.many = 0) :
    CallOK Tryz.prog EachF [.ptr 0 0 0, .agg (tidS d.t), giftFn] (bkC B ++ (docI d ++ giftRd d)) (giftPre σ) noS (giftPost (gfold d.s.pen σ (coupL B d.t))) := by
  have st := status_d B ht
  have k0 := kidOk_at ht (i := 0) (by decide) (by decide)
  have k1 := kidOk_at ht (i := 1) (by decide) (by decide)
  have k2 := kidOk_at ht (i := 2) (by decide) (by decide)
  have k3 := kidOk_at ht (i := 3) (by decide) (by decide)
  have c0 := own_c B k0
  have c1 := own_c B k1
  have c2 := own_c B k2
  have c3 := own_c B k3
  rcases coupL_cases B d.t with ⟨e, h0⟩ | ⟨a, e, h0, h1⟩ | ⟨a, b, e, h0, h1, h2⟩ | ⟨a, b, c, e, h0, h1, h2, h3⟩ | ⟨a, b, c, x, e, h0, h1, h2, h3⟩
  · rw [e] at st ho ⊢
    exact callOK_runU 900 [hC 1 2 st] (by kernel_rfl) (by kernel_rfl)
  · rw [e] at st ho ⊢
    rw [h0] at c0
    have t0 := gift1_w d hp ⟨d.t, 0⟩ (ho a (by simp)) (σ := σ) (by omega) (by omega) (by omega)
    exact callOK_runU 900 [hC 1 2 st, hC 5 2 c0, hC 7 3 t0] (by kernel_rfl) (by kernel_rfl)
  · rw [e] at st ho ⊢
    rw [h0] at c0
    rw [h1] at c1
    have t0 := gift1_w d hp ⟨d.t, 0⟩ (ho a (by simp)) (σ := σ) (by omega) (by omega) (by omega)
    have l0 := gstep_le d.s.pen a σ
    have t1 := gift1_w d hp ⟨d.t, 1⟩ (ho b (by simp)) (σ := gstep d.s.pen a σ) (by omega) (by omega) (by omega)
    exact callOK_runU 900 [hC 1 2 st, hC 5 2 c0, hC 7 3 t0, hC 5 2 c1, hC 7 3 t1] (by kernel_rfl) (by kernel_rfl)
  · rw [e] at st ho ⊢
    rw [h0] at c0
    rw [h1] at c1
    rw [h2] at c2
    have t0 := gift1_w d hp ⟨d.t, 0⟩ (ho a (by simp)) (σ := σ) (by omega) (by omega) (by omega)
    have l0 := gstep_le d.s.pen a σ
    have t1 := gift1_w d hp ⟨d.t, 1⟩ (ho b (by simp)) (σ := gstep d.s.pen a σ) (by omega) (by omega) (by omega)
    have l1 := gstep_le d.s.pen b (gstep d.s.pen a σ)
    have t2 := gift1_w d hp ⟨d.t, 2⟩ (ho c (by simp)) (σ := gstep d.s.pen b (gstep d.s.pen a σ)) (by omega) (by omega) (by omega)
    exact callOK_runU 900 [hC 1 2 st, hC 5 2 c0, hC 7 3 t0, hC 5 2 c1, hC 7 3 t1, hC 5 2 c2, hC 7 3 t2] (by kernel_rfl) (by kernel_rfl)
  · rw [e] at st ho ⊢
    rw [h0] at c0
    rw [h1] at c1
    rw [h2] at c2
    rw [h3] at c3
    have t0 := gift1_w d hp ⟨d.t, 0⟩ (ho a (by simp)) (σ := σ) (by omega) (by omega) (by omega)
    have l0 := gstep_le d.s.pen a σ
    have t1 := gift1_w d hp ⟨d.t, 1⟩ (ho b (by simp)) (σ := gstep d.s.pen a σ) (by omega) (by omega) (by omega)
    have l1 := gstep_le d.s.pen b (gstep d.s.pen a σ)
    have t2 := gift1_w d hp ⟨d.t, 2⟩ (ho c (by simp)) (σ := gstep d.s.pen b (gstep d.s.pen a σ)) (by omega) (by omega) (by omega)
    have l2 := gstep_le d.s.pen c (gstep d.s.pen b (gstep d.s.pen a σ))
    have t3 := gift1_w d hp ⟨d.t, 3⟩ (ho x (by simp)) (σ := gstep d.s.pen c (gstep d.s.pen b (gstep d.s.pen a σ))) (by omega) (by omega) (by omega)
    exact callOK_runU 900 [hC 1 2 st, hC 5 2 c0, hC 7 3 t0, hC 5 2 c1, hC 7 3 t1, hC 5 2 c2, hC 7 3 t2, hC 5 2 c3, hC 7 3 t3] (by kernel_rfl) (by kernel_rfl)
/-! ### summed up -/
def freeL (B : BookV) (t : Tid) : List OwnV := (coupL B t).filter freeO
def giveL (B : BookV) (d : DocV) : List Int := d.left :: (freeL B d.t).map fun o => giveV o.k.v d.s.pen
def keepL (B : BookV) (d : DocV) : List Int := (freeL B d.t).map fun o => giveK o.k.v d.s.pen
theorem gfold_eq (pen : Int) : ∀ (l : List OwnV) (σ : GS), gfold pen σ l = ⟨σ.n + (l.filter freeO).length, σ.gl ++ (l.filter freeO).map (fun o => .int .i64 (giveV o.k.v pen)), σ.m + (l.filter freeO).length, σ.kl ++ (l.filter freeO).map (fun o => .int .i64 (giveK o.k.v pen)), σ.many + ((l.filter freeO).length : Int)⟩
  | [], σ => by simp [gfold]
  | o :: l, σ => by
    show gfold pen (gstep pen o σ) l = _
    rw [gfold_eq pen l]
    unfold gstep
    cases h : freeO o
    · simp [h]
    · simp only [h, cond_true, List.filter_cons_of_pos, List.length_cons, List.map_cons, List.append_assoc, List.cons_append, List.nil_append, GS.mk.injEq, true_and]
      refine ⟨by omega, by omega, by omega⟩
def gs0 (d : DocV) : GS := ⟨1, [.int .i64 d.left], 0, [], 0⟩
theorem gfold_0 (B : BookV) (d : DocV) : gfold d.s.pen (gs0 d) (coupL B d.t) = ⟨(giveL B d).length, (giveL B d).map (.int .i64), (keepL B d).length, (keepL B d).map (.int .i64), ((freeL B d.t).length : Int)⟩ := by
  rw [gfold_eq]
  simp only [gs0, giveL, keepL, freeL, List.length_cons, List.length_map, List.map_cons, List.map_map, List.cons_append, List.nil_append, GS.mk.injEq]
  refine ⟨by omega, rfl, by omega, rfl, by omega⟩
/-- gifts: given, kept, how many, an error -/
structure GiftV where
  g : Int
  k : Int
  many : Int
  e : Int
def giftV (B : BookV) (d : DocV) : GiftV := ⟨(sumFrom 0 (giveL B d)).1, (sumFrom 0 (keepL B d)).1, ((freeL B d.t).length : Int), first2 (sumFrom 0 (giveL B d)).2 (sumFrom 0 (keepL B d)).2⟩
def GiftsF : Nat := 156
theorem coupL_len (B : BookV) (t : Tid) : (coupL B t).length ≤ 4 := by
  rcases coupL_cases B t with ⟨e, h0⟩ | ⟨a, e, h0, h1⟩ | ⟨a, b, e, h0, h1, h2⟩ | ⟨a, b, c, e, h0, h1, h2, h3⟩ | ⟨a, b, c, x, e, h0, h1, h2, h3⟩ <;> rw [e] <;> simp
theorem freeL_len (B : BookV) (t : Tid) : (freeL B t).length ≤ 4 := Nat.le_trans (List.length_filter_le _ _) (coupL_len B t)
theorem gifts_w (B : BookV) {d : DocV} (ht : TidOk d.t) (hp : d.s.pen ≤ 9223372036854775807) (ho : ∀ o ∈ coupL B d.t, OwnOk o) :
    CallOK Tryz.prog GiftsF [.ptr 0 0 0, docRaw d] (bkC B ++ docI d) [] (.agg (giftS (giftV B d).g (giftV B d).k (giftV B d).many (giftV B d).e)) [] := by
  have c1 := each_gift B ht hp ho (σ := gs0 d) (by show (1 : Nat) ≤ 1000; decide) (by show (0 : Nat) ≤ 1000; decide) rfl
  rw [gfold_0] at c1
  have hl := freeL_len B d.t
  have lg : (giveL B d).length ≤ 5 := by unfold giveL; rw [List.length_cons, List.length_map]; omega
  have lk : (keepL B d).length ≤ 4 := by unfold keepL; rw [List.length_map]; omega
  have c2 := msum_raw (xs := giveL B d) (by omega)
  have c3 := msum_raw (xs := keepL B d) (by omega)
  have c4 := first2_w (sumFrom 0 (giveL B d)).2 (sumFrom 0 (keepL B d)).2
  unfold giftV
  generalize giveL B d = gl at *
  generalize keepL B d = kl at *
  generalize (freeL B d.t).length = fn at *
  refine callOK_intro (by kernel_rfl) fun eb R => ?_
  refine leaf_cut (rgK Tryz.prog GiftsF 3 []) [(0, .ptr 0 0 0), (3, .ptr 1 0 0), (4, .ptr 1 1 0), (5, .ptr 1 2 0), (6, .ptr 1 3 0), (7, .ptr 1 4 0)]
    ((bkC B ++ docI d) ++ [((1, 0), .box none (docS d (.raw 0 10) (.raw 0 11) (.raw 0 12))), ((1, 1), .box none (giftS 0 0 0 0)), ((1, 2), .box none (giftS 0 0 0 0)), ((1, 3), .box none [.raw 1 5]), ((1, 5), .row 2 1 1 (.deep [.val (.int .i64 d.left)]) []), ((1, 4), .box none [nilS])]) calNone false 400 [.stop 3] calNone_ok (by kernel_rfl) ?_
  refine go_open (X := Unit) (fun _ => ((bkC B ++ docI d) ++ [((1, 0), .box none (docS d (.raw 0 10) (.raw 0 11) (.raw 0 12))), ((1, 1), .box none (giftS 0 0 0 0)), ((1, 2), .box none (giftS 0 0 0 0)), ((1, 3), .box none [.raw 1 5]), ((1, 5), i64V 1 [.int .i64 d.left]), ((1, 4), .box none [nilS])]))
    (fun ε w hM => ⟨(), hM⟩) (fun _ => by kernel_rfl) fun _ => ?_
  exact leaf_end calNone false 400 [hC 3 4 c1, hC 5 1 c2, hC 6 1 c3, hC 7 3 c4] calNone_ok (by kernel_rfl)
end Go.Proofs.YtlekbdpdlalhbaaGreat
end
