/- HoP1, Lw16c, Lw16d, Lw16e. -/
import Derived.Test.YtjeppnhkgiljpaaMc3bfa4b
section
namespace Go.Proofs.Ytjeppnhkgiljpaa
set_option maxRecDepth 100000
open Go.RowKit Go.Lib Go.Tk Go.Shelf Go.Vc Go.Sx
set_option linter.unusedVariables false
set_option linter.unusedSimpArgs false

structure HSt where
  a : BookV
  b : BookV
  down : List MsV
  up : List MsV
def tA : Tid := ⟨0, 1⟩
def keyA (i : Int) : Kid := ⟨tA, i⟩
def outsM (l : List OutV) : List MsV := l.map (·.m)
/-- what an act does -/
def stepH (σ : HSt) (d i : Int) : HSt :=
  if d = 0 then { σ with b := (wantQ σ.b (keyA i)).b, up := σ.up ++ outsM (wantQ σ.b (keyA i)).out }
  else if d = 1 then { σ with b := (returnQ σ.b (keyA i)).b, up := σ.up ++ outsM (returnQ σ.b (keyA i)).out }
  else if d = 2 then { σ with a := (recallQ σ.a (keyA i)).b, down := σ.down ++ outsM (recallQ σ.a (keyA i)).out }
  else if d = 3 then match σ.down with
    | [] => σ
    | m :: l => { σ with b := (hearQ σ.b 0 m).b, down := l, up := σ.up ++ outsM (hearQ σ.b 0 m).out }
  else match σ.up with
    | [] => σ
    | m :: l => { σ with a := (hearQ σ.a 1 m).b, up := l, down := σ.down ++ outsM (hearQ σ.a 1 m).out }
/-- how many messages of a kind say something of a coupon -/
def nM (kind : Int) (k : Kid) : List MsV → Nat
  | [] => 0
  | m :: l => (if m.kind = kind ∧ m.key = k then 1 else 0) + nM kind k l
theorem nM_append (kind : Int) (k : Kid) (l r : List MsV) : nM kind k (l ++ r) = nM kind k l + nM kind k r := by
  induction l with
  | nil => simp [nM]
  | cons m l ih => simp only [List.cons_append, nM, ih]; omega
def keysA : List Kid := [keyA 0, keyA 1, keyA 2, keyA 3]
/-- how one coupon stands at both, and under way -/
structure One (σ : HSt) (k : Kid) : Prop where
  own : ∃ o, lkt σ.a.owns k = some o ∧
    (o.away = false → nM 2 k σ.down = 0 ∧ nM 5 k σ.up = 0 ∧ ((lkt σ.b.helds k).getD held0).here = false) ∧
    (o.away = true → o.dst = 1 ∧ nM 2 k σ.down + nM 5 k σ.up + (if ((lkt σ.b.helds k).getD held0).here = true then 1 else 0) = 1) ∧
    (∀ m ∈ σ.down, m.kind = 2 → m.key = k → m.k.n = o.k.n) ∧ (∀ m ∈ σ.up, m.kind = 5 → m.key = k → m.k.n = o.k.n) ∧
    (((lkt σ.b.helds k).getD held0).here = true → ((lkt σ.b.helds k).getD held0).k.n = o.k.n) ∧
    ((lkt σ.b.helds k).isSome = true → ((lkt σ.b.helds k).getD held0).k.n ≤ o.k.n) ∧
    (0 < nM 2 k σ.down → (lkt σ.b.helds k).isSome = true → ((lkt σ.b.helds k).getD held0).k.n < o.k.n) ∧ 0 ≤ o.k.n ∧ o.k.n ≤ 4294967295
structure InvH (σ : HSt) : Prop where
  one : ∀ k ∈ keysA, One σ k
  selfA : σ.a.self = 0 ∧ σ.a.n = 2
  selfB : σ.b.self = 1 ∧ σ.b.n = 2
  ownsA : ∀ k, (lkt σ.a.owns k).isSome = true → k ∈ keysA
  ownsB : σ.b.owns = []
  heldsA : σ.a.helds = []
  heldsB : (∀ k, (lkt σ.b.helds k).isSome = true → k ∈ keysA) ∧ (σ.b.helds.map (·.1)).Nodup
  downK : ∀ m ∈ σ.down, m.key ∈ keysA ∧ (m.kind = 2 ∨ m.kind = 3 ∨ m.kind = 4)
  upK : ∀ m ∈ σ.up, m.key ∈ keysA ∧ (m.kind = 1 ∨ m.kind = 3 ∨ m.kind = 5)
end Go.Proofs.Ytjeppnhkgiljpaa
end
section
namespace Go.Proofs.Ytjeppnhkgiljpaa
set_option maxRecDepth 100000
open Go.RowKit Go.Lib Go.Tk Go.Shelf Go.Vc Go.Sx
set_option linter.unusedVariables false
set_option linter.unusedSimpArgs false

structure Act16 where
  d : Int
  k : Kid
  frm : Int
  m : MsV
deriving Inhabited
def act16L (x : Act16) : List Value := .int .i64 x.d :: .int .u8 x.k.t.c :: .int .u64 x.k.t.r :: .int .u8 x.k.i :: .int .u8 x.frm :: msL x.m
def act16S (x : Act16) : List SV := .val (.int .i64 x.d) :: .val (.int .u8 x.k.t.c) :: .val (.int .u64 x.k.t.r) :: .val (.int .u8 x.k.i) :: .val (.int .u8 x.frm) :: msS x.m
theorem act16_len (x : Act16) : (act16L x).length = 17 := rfl
def act0 : Act16 := ⟨0, kid0, 0, ⟨0, kid0, cpn0, 0, 0⟩⟩
theorem act16_nth {l : List Act16} {i : Nat} (h : i < l.length) (d : Act16) : ∀ (ε : Env) (q : Nat) (v : SV), (act16S (l.getD i d))[q]? = some v → (cellsL act16L l)[i * 17 + q]? = some (v.den ε) := cells_nth (fun _ _ => rfl) act16_len (getD_some h d)
def atOf (x : Act16) : Int := Int.tmod x.k.i 5
def runH (σ : HSt) (l : List Act16) : Nat → HSt
  | 0 => σ
  | i + 1 => stepH (runH σ l i) (l.getD i act0).d (atOf (l.getD i act0))
/-- what is told by an act, an error, to whom -/
def outH (σ : HSt) (d i : Int) : List OutV :=
  if d = 0 then (wantQ σ.b (keyA i)).out else if d = 1 then (returnQ σ.b (keyA i)).out else if d = 2 then (recallQ σ.a (keyA i)).out
  else if d = 3 then match σ.down with
    | [] => []
    | m :: l => (hearQ σ.b 0 m).out
  else match σ.up with
    | [] => []
    | m :: l => (hearQ σ.a 1 m).out
def eH (σ : HSt) (d : Int) : Int :=
  if d = 0 then 0 else if d = 1 then 0 else if d = 2 then 0
  else if d = 3 then match σ.down with
    | [] => 0
    | m :: l => (hearQ σ.b 0 m).e
  else match σ.up with
    | [] => 0
    | m :: l => (hearQ σ.a 1 m).e
def toH (d : Int) : Int := if d = 0 then 0 else if d = 1 then 0 else if d = 2 then 1 else if d = 3 then 0 else 1
structure GoodH (σ : HSt) (d i : Int) : Prop where
  e : eH σ d = 0
  out : outH σ d i = [] ∨ ∃ x, outH σ d i = [x] ∧ x.dst = toH d
def OneF : Nat := 5
def AT : TypeId := 60
theorem outsM1 (x : OutV) : outsM [x] = [x.m] := rfl
def docB : List SV := docS (docMade tA sale16b) (.raw 1 6) (.raw 1 7) (.raw 1 8)
theorem one_round (F : CF) {acts : List Act16} {a : Option Addr} {n cap : Nat} (hR : ∀ b v, Rd (F b v) a (cellsL act16L acts)) (hl : acts.length = n) {eb : Env} {R : List Chunk} {J : Act → World → Prop} {i : Nat} (h : i < acts.length) (hi : acts.length ≤ 400)
    (A B : BookV) (D U : List MsV) (out : List OutV) (tw : Int) (hto : tw = 0 ∨ tw = 1) (ho : out = [] ∨ ∃ x, out = [x] ∧ x.dst = tw) (σ' : HSt) (h0 : tw = 0 → σ' = ⟨A, B, D, U ++ outsM out⟩) (h1 : tw = 1 → σ' = ⟨A, B, D ++ outsM out, U⟩) (hD : D.length ≤ 400) (hU : U.length ≤ 400)
    (hc : ∀ k ∈ keysA, controlsN σ'.a σ'.b k σ'.down σ'.up = 1)
    (hJ : ∀ ε a' w, Rel (ntOf Try.prog OneF) 1 eb R ⟨[(0, .val (.slice a n cap)), (3, .ptr 1 0 0), (5, .ptr 1 1 0), (8, .ptr 1 2 0), (9, .val (.int .i64 0)), (10, .any 1 3), (11, .any 1 4), (12, .val (.int .i64 ((i + 1 : Nat) : Int)))],
      [((0, 9), .fam F), ((1, 0), .fam (bookF σ'.a)), ((1, 1), .fam (bookF σ'.b)), ((1, 2), .box none docB), ((1, 3), .fam (msQ σ'.down)), ((1, 4), .fam (msQ σ'.up))], 2⟩ ε a' w → J a' w) :
    Go Try.prog OneF (.val (.bool true)) ([((0, 9), .fam F)] ++ []) eb R .nrm (rgK Try.prog OneF 33 [J]) [(0, .val (.slice a n cap)), (3, .ptr 1 0 0), (5, .ptr 1 1 0), (8, .ptr 1 2 0), (9, .val (.int .i64 0)), (10, .any 1 3), (11, .any 1 4), (12, .val (.int .i64 (i : Int))), (14, .raw 1 5), (15, .val (.int .u8 tw))]
      [((0, 9), .fam F), ((1, 0), .fam (bookF A)), ((1, 1), .fam (bookF B)), ((1, 2), .box none docB), ((1, 3), .fam (msQ D)), ((1, 4), .fam (msQ U)), ((1, 5), outsC out)] := by
  have q4 : IntKind.i64.wrap ((i : Int) + 1) = ((i + 1 : Nat) : Int) := by rw [wr_i64 (by omega)]; omega
  have kok : ∀ j : Int, 0 ≤ j → j ≤ 3 → KidOk (keyA j) := fun j h1 h2 => ⟨⟨⟨by show (0 : Int) ≤ 0; decide, by show (0 : Int) ≤ 255; decide⟩, by show (0 : Int) ≤ 1; decide, by show (1 : Int) ≤ _; decide⟩, by show 0 ≤ j; omega, by show j ≤ 255; omega⟩
  have lenD : σ'.down.length ≤ 1000000 ∧ σ'.up.length ≤ 1000000 := by
    have hol : (outsM out).length ≤ 1 := by rcases ho with rfl | ⟨x, rfl, -⟩ <;> simp [outsM]
    rcases hto with e | e
    · rw [h0 e]; simp only [List.length_append]; omega
    · rw [h1 e]; simp only [List.length_append]; omega
  have k0 := controls_w σ'.a σ'.b (kok 0 (by omega) (by omega)) σ'.down σ'.up lenD.1 lenD.2
  have k1 := controls_w σ'.a σ'.b (kok 1 (by omega) (by omega)) σ'.down σ'.up lenD.1 lenD.2
  have k2 := controls_w σ'.a σ'.b (kok 2 (by omega) (by omega)) σ'.down σ'.up lenD.1 lenD.2
  have k3 := controls_w σ'.a σ'.b (kok 3 (by omega) (by omega)) σ'.down σ'.up lenD.1 lenD.2
  rw [hc (keyA 0) (by simp [keysA])] at k0
  rw [hc (keyA 1) (by simp [keysA])] at k1
  rw [hc (keyA 2) (by simp [keysA])] at k2
  rw [hc (keyA 3) (by simp [keysA])] at k3
  rcases hto with e | e
  · have hs := h0 e
    subst e
    rcases ho with rfl | ⟨x, rfl, hx⟩
    · rw [show outsM [] = [] from rfl, List.append_nil] at hs
      subst hs
      exact leaf_round (lpK Try.prog OneF 0 []) true 900 [hC 46 9 k0, hC 46 9 k1, hC 46 9 k2, hC 46 9 k3, hI 13 1 IntKind.i64 _ _ q4] hJ (by kernel_rfl)
    · rw [outsM1] at hs
      subst hs
      have g1 : (!decide (x.dst = 0)) = false := by rw [hx]; rfl
      have p1 := q_app (P := Try.prog) (t := 70) (e := MT) (E := MT) (size := 12) (enc := msL) U x.m (msS x.m) (fun _ => rfl) (fun u hu => by simp [msL] at hu; rcases hu with rfl | rfl | rfl | rfl | rfl | rfl | rfl | rfl | rfl | rfl | rfl | rfl <;> rfl) rfl Try.underlying70 (by kernel_rfl) (by omega)
      exact leaf_round (lpK Try.prog OneF 0 []) true 900 [hI 38 4 IntKind.u8 _ _ hx, hG 42 7 p1, hC 46 9 k0, hC 46 9 k1, hC 46 9 k2, hC 46 9 k3, hI 13 1 IntKind.i64 _ _ q4] hJ (by kernel_rfl)
  · have hs := h1 e
    subst e
    rcases ho with rfl | ⟨x, rfl, hx⟩
    · rw [show outsM [] = [] from rfl, List.append_nil] at hs
      subst hs
      exact leaf_round (lpK Try.prog OneF 0 []) true 900 [hC 46 9 k0, hC 46 9 k1, hC 46 9 k2, hC 46 9 k3, hI 13 1 IntKind.i64 _ _ q4] hJ (by kernel_rfl)
    · rw [outsM1] at hs
      subst hs
      have g1 : (!decide (x.dst = 1)) = false := by rw [hx]; rfl
      have p1 := q_app (P := Try.prog) (t := 70) (e := MT) (E := MT) (size := 12) (enc := msL) D x.m (msS x.m) (fun _ => rfl) (fun u hu => by simp [msL] at hu; rcases hu with rfl | rfl | rfl | rfl | rfl | rfl | rfl | rfl | rfl | rfl | rfl | rfl <;> rfl) rfl Try.underlying70 (by kernel_rfl) (by omega)
      exact leaf_round (lpK Try.prog OneF 0 []) true 900 [hI 38 4 IntKind.u8 _ _ hx, hG 41 7 p1, hC 46 9 k0, hC 46 9 k1, hC 46 9 k2, hC 46 9 k3, hI 13 1 IntKind.i64 _ _ q4] hJ (by kernel_rfl)
end Go.Proofs.Ytjeppnhkgiljpaa
end
section
namespace Go.Proofs.Ytjeppnhkgiljpaa
set_option maxRecDepth 100000
open Go.RowKit Go.Lib Go.Tk Go.Shelf Go.Vc Go.Sx
set_option linter.unusedVariables false
set_option linter.unusedSimpArgs false

def WakesF16 : Nat := 18
def startH : HSt := ⟨(bookNew 0 2).issued sale16b, bookNew 1 2, [], []⟩
structure ActOk (x : Act16) : Prop where
  i : 0 ≤ x.k.i ∧ x.k.i ≤ 255
theorem atOf_in {x : Act16} (h : ActOk x) : 0 ≤ atOf x ∧ atOf x ≤ 4 := by
  have h1 := h.i.1
  unfold atOf
  rw [Int.tmod_eq_emod_of_nonneg h1]
  omega
theorem one_w (F : CF) {acts : List Act16} {a : Option Addr} {n cap : Nat} (hR : ∀ b v, Rd (F b v) a (cellsL act16L acts)) (hl : acts.length = n) (hn : n ≤ maxLen) (ok : ∀ x ∈ acts, ActOk x)
    (hw : CallOK Try.prog WakesF16 [] [] [] (.val (.bool true)) [])
    (inv : acts.length ≤ 400 → ∀ i ≤ acts.length, (∀ d j, 0 ≤ j → j ≤ 4 → GoodH (runH startH acts i) d j) ∧ (∀ k ∈ keysA, 0 < i → controlsN (runH startH acts i).a (runH startH acts i).b k (runH startH acts i).down (runH startH acts i).up = 1) ∧ (runH startH acts i).down.length ≤ i ∧ (runH startH acts i).up.length ≤ i ∧ (∀ m ∈ (runH startH acts i).down ++ (runH startH acts i).up, KidOk m.key ∧ 0 ≤ m.kind ∧ m.kind ≤ 255)) :
    CallOK Try.prog OneF [.val (.slice a n cap)] [((0, 9), .fam F)] [] (.val (.bool true)) [] := by
  subst hl
  have hn1 : acts.length ≤ 9223372036854775807 := by simpa [maxLen] using hn
  refine callOK_intro (by kernel_rfl) fun eb R => ?_
  by_cases hlong : 400 < acts.length
  · have g1 : decide ((400 : Int) < (acts.length : Int)) = true := decide_eq_true (by omega)
    exact leaf_end calNone false 400 [hB 1 2 _ _ g1, hC 2 0 hw] calNone_ok (by kernel_rfl)
  have inv := inv (by omega)
  have g1 : decide ((400 : Int) < (acts.length : Int)) = false := decide_eq_false (by omega)
  have n1 := new_okC (self := 0) (n := 2) (by decide) (by decide)
  have n2 := new_okC (self := 1) (n := 2) (by decide) (by decide)
  have n3 := known16_w
  have n4 := issue_okR (book_new_ok 0 2 (by decide)) sale16b_ok iss16b
  refine leaf_cut (rgK Try.prog OneF 11 []) [(0, .val (.slice a acts.length cap)), (3, .ptr 1 0 0), (5, .ptr 1 1 0), (8, .ptr 1 2 0), (9, .val (.int .i64 0)), (10, .val (.slice none 0 0)), (11, .val (.slice none 0 0))]
    [((0, 9), .fam F), ((1, 0), .fam (bookF startH.a)), ((1, 1), .fam (bookF startH.b)), ((1, 2), .box none docB)] calNone false 400 [hB 1 2 _ _ g1, hC 3 0 n1, hC 4 0 n2, hC 5 0 n3, hC 7 2 n4, .stop 11] calNone_ok (by kernel_rfl) ?_
  refine go_named 10 3 (.slice none 0 0) (msQ []) rfl (fun cs w h => mem_noQ h _ _) (by kernel_rfl) (by kernel_rfl) (by kernel_rfl) ?_
  refine go_named 11 4 (.slice none 0 0) (msQ []) (by kernel_rfl) (fun cs w h => mem_noQ h _ _) (by kernel_rfl) (by kernel_rfl) (by kernel_rfl) ?_
  refine go_loop (X := { i : Nat // i ≤ acts.length }) 0 [] (fun x => ([(0, .val (.slice a acts.length cap)), (3, .ptr 1 0 0), (5, .ptr 1 1 0), (8, .ptr 1 2 0), (9, .val (.int .i64 0)), (10, .any 1 3), (11, .any 1 4), (12, .val (.int .i64 (x.1 : Int)))],
      [((0, 9), .fam F), ((1, 0), .fam (bookF (runH startH acts x.1).a)), ((1, 1), .fam (bookF (runH startH acts x.1).b)), ((1, 2), .box none docB), ((1, 3), .fam (msQ (runH startH acts x.1).down)), ((1, 4), .fam (msQ (runH startH acts x.1).up))]))
    (fun x => acts.length - x.1) ⟨0, Nat.zero_le _⟩ calNone false 400 [] calNone_ok (by kernel_rfl) ?_
  rintro ⟨i, hi⟩ J hJ
  by_cases h : i < acts.length
  · have q1 : decide ((i : Int) < (acts.length : Int)) = true := decide_eq_true (by omega)
    obtain ⟨gd, -, hd1, hu1, wf⟩ := inv i hi
    obtain ⟨-, ct, -⟩ := inv (i + 1) h
    have hJ' := hJ ⟨i + 1, h⟩ (by show _ - (i + 1) < _ - i; omega)
    have hx : acts.getD i act0 ∈ acts := List.mem_of_getElem? (getD_some h act0)
    have hxo := ok _ hx
    have q2 := idx_openG (P := Try.prog) (t := AT) (e := 54) (size := 17) (j := 9) (k := .i64) (cap := cap) (n := acts.length) Try.underlying60 (by kernel_rfl) (cellsL_len act16_len _) hR h
    have l0 : 0 < (cellsL act16L acts).length := by rw [cellsL_len act16_len]; omega
    have q3 := load_openG2 (P := Try.prog) (t := 5) (k := i * 17) (j := 9) (cs := act16S (acts.getD i act0)) (u := .val (.int .u8 (acts.getD i act0).k.i)) 1 2 (by kernel_rfl) hR (act16_nth h act0) l0
    have q5 := load_openG (P := Try.prog) (t := 3) (k := i * 17) (j := 9) (cs := act16S (acts.getD i act0)) (u := .val (.int .i64 (acts.getD i act0).d)) 0 (by kernel_rfl) hR (act16_nth h act0) l0
    have hstep : runH startH acts (i + 1) = stepH (runH startH acts i) (acts.getD i act0).d (atOf (acts.getD i act0)) := rfl
    simp only [hstep] at hJ' ct
    clear hJ hstep inv n1 n2 n3 n4
    have hgd := gd (acts.getD i act0).d (atOf (acts.getD i act0)) (atOf_in hxo).1 (atOf_in hxo).2
    have hat := atOf_in hxo
    have w5 : IntKind.u8.wrap (Int.tmod (acts.getD i act0).k.i 5) = atOf (acts.getD i act0) := wr_u8 (by have := hat; unfold atOf at this; omega)
    generalize hσ : runH startH acts i = σ at *
    generalize hxx : acts.getD i act0 = x at *
    generalize hay : atOf x = y at *
    have hk : KidOk (keyA y) := ⟨⟨⟨by show (0 : Int) ≤ 0; decide, by show (0 : Int) ≤ 255; decide⟩, by show (0 : Int) ≤ 1; decide, by show (1 : Int) ≤ _; decide⟩, by show 0 ≤ y; omega, by show y ≤ 255; omega⟩
    have ct := fun k hk => ct k hk (Nat.succ_pos i)
    by_cases d0 : x.d = 0
    · have e0 : decide (x.d = 0) = true := decide_eq_true d0
      have c1 := want_c σ.b hk
      refine leaf_cut (rgK Try.prog OneF 33 [J]) _ _ calNone false 400 [hB 12 3 _ _ q1, hG 14 4 q2, hG 14 7 q3, hI 14 8 IntKind.u8 _ _ hay, hG 17 2 q2, hG 17 4 q5, hI 17 4 IntKind.i64 _ _ d0, hC 23 2 c1, .stop 33] calNone_ok (by kernel_rfl) (one_round F hR rfl h (by omega) σ.a (wantQ σ.b (keyA y)).b σ.down σ.up (wantQ σ.b (keyA y)).out 0 (.inl rfl) ?_ _ (fun _ => ?_) (fun e => by cases e) (by omega) (by omega) ct hJ')
      · have := hgd.out; unfold outH toH at this; rw [if_pos d0, if_pos d0] at this; exact this
      · unfold stepH; rw [if_pos d0]
    have e0 : decide (x.d = 0) = false := decide_eq_false d0
    by_cases d1 : x.d = 1
    · have e1 : decide (x.d = 1) = true := decide_eq_true d1
      have c1 := return_c σ.b hk
      refine leaf_cut (rgK Try.prog OneF 33 [J]) _ _ calNone false 400 [hB 12 3 _ _ q1, hG 14 4 q2, hG 14 7 q3, hI 14 8 IntKind.u8 _ _ hay, hG 17 2 q2, hG 17 4 q5, hI 17 4 IntKind.i64 _ _ d1, hC 25 2 c1, .stop 33] calNone_ok (by kernel_rfl) (one_round F hR rfl h (by omega) σ.a (returnQ σ.b (keyA y)).b σ.down σ.up (returnQ σ.b (keyA y)).out 0 (.inl rfl) ?_ _ (fun _ => ?_) (fun e => by cases e) (by omega) (by omega) ct hJ')
      · have := hgd.out; unfold outH toH at this; rw [if_neg d0, if_pos d1, if_neg d0, if_pos d1] at this; exact this
      · unfold stepH; rw [if_neg d0, if_pos d1]
    have e1 : decide (x.d = 1) = false := decide_eq_false d1
    by_cases d2 : x.d = 2
    · have e2 : decide (x.d = 2) = true := decide_eq_true d2
      have c1 := recall_c σ.a hk
      refine leaf_cut (rgK Try.prog OneF 33 [J]) _ _ calNone false 400 [hB 12 3 _ _ q1, hG 14 4 q2, hG 14 7 q3, hI 14 8 IntKind.u8 _ _ hay, hG 17 2 q2, hG 17 4 q5, hI 17 4 IntKind.i64 _ _ d2, hC 27 2 c1, .stop 33] calNone_ok (by kernel_rfl) (one_round F hR rfl h (by omega) (recallQ σ.a (keyA y)).b σ.b σ.down σ.up (recallQ σ.a (keyA y)).out 1 (.inr rfl) ?_ _ (fun e => by cases e) (fun _ => ?_) (by omega) (by omega) ct hJ')
      · have := hgd.out; unfold outH toH at this; rw [if_neg d0, if_neg d1, if_pos d2, if_neg d0, if_neg d1, if_pos d2] at this; exact this
      · unfold stepH; rw [if_neg d0, if_neg d1, if_pos d2]
    have e2 : decide (x.d = 2) = false := decide_eq_false d2
    obtain ⟨A, B, D, U⟩ := σ
    by_cases d3 : x.d = 3
    · have e3 : decide (x.d = 3) = true := decide_eq_true d3
      have hgo := hgd.out
      unfold outH toH at hgo
      rw [if_neg d0, if_neg d1, if_neg d2, if_pos d3, if_neg d0, if_neg d1, if_neg d2, if_pos d3] at hgo
      have hge := hgd.e
      unfold eH at hge
      rw [if_neg d0, if_neg d1, if_neg d2, if_pos d3] at hge
      have ql := q_len (P := Try.prog) (E := MT) (size := 12) (enc := msL) D
      cases D with
      | nil =>
        refine leaf_cut (rgK Try.prog OneF 33 [J]) _ _ calNone false 400 [hB 12 3 _ _ q1, hG 14 4 q2, hG 14 7 q3, hI 14 8 IntKind.u8 _ _ hay, hG 17 2 q2, hG 17 4 q5, hI 17 4 IntKind.i64 _ _ d3, hG 30 1 ql, .stop 33] calNone_ok (by kernel_rfl) (one_round F hR rfl h (by omega) A B [] U [] 0 (.inl rfl) (.inl rfl) _ (fun _ => ?_) (fun e => by cases e) (Nat.zero_le _) (by show U.length ≤ 400; have : U.length ≤ i := hu1; omega) ct hJ')
        unfold stepH; rw [if_neg d0, if_neg d1, if_neg d2, if_pos d3]; simp [outsM]
      | cons m l =>
        have g2 : decide ((0 : Int) < ((m :: l).length : Int)) = true := decide_eq_true (by simp)
        have wm := wf m (by simp)
        have c1 := hear_c B (c := 0) (by decide) m wm.2 wm.1
        have q7 := q_idx (P := Try.prog) (t := 70) (i := 0) (k := .i64) (E := MT) (size := 12) (enc := msL) (m :: l) msL_len (by decide) (by kernel_rfl) (by simp)
        have q8 := q_load (P := Try.prog) (t := 52) (b := 0 * 12) (j := 0) (cs := msS m) (u := .agg (msS m)) (E := MT) (size := 12) (enc := msL) (m :: l) (by kernel_rfl) (ms_nth (l := m :: l) (i := 0) (by simp) m)
        have q9 := q_tail (P := Try.prog) (t := 70) (E := MT) (size := 12) (enc := msL) m l msL_len (by decide) (by kernel_rfl)
        have hge : (hearQ B 0 m).e = 0 := hge
        refine leaf_cut (rgK Try.prog OneF 33 [J]) _ _ calNone false 400 [hB 12 3 _ _ q1, hG 14 4 q2, hG 14 7 q3, hI 14 8 IntKind.u8 _ _ hay, hG 17 2 q2, hG 17 4 q5, hI 17 4 IntKind.i64 _ _ d3, hG 30 1 ql, hB 30 2 _ _ g2, hG 31 2 q7, hG 31 3 q8, hC 31 4 c1, hI 31 7 IntKind.i64 _ _ hge, hG 32 1 q9, .stop 33] calNone_ok (by kernel_rfl) (one_round F hR rfl h (by omega) A (hearQ B 0 m).b l U (hearQ B 0 m).out 0 (.inl rfl) hgo _ (fun _ => ?_) (fun e => by cases e) (by have : (m :: l).length ≤ i := hd1; simp at this; omega) (by have : U.length ≤ i := hu1; omega) ct hJ')
        unfold stepH; rw [if_neg d0, if_neg d1, if_neg d2, if_pos d3]
    have e3 : decide (x.d = 3) = false := decide_eq_false d3
    have hgo := hgd.out
    unfold outH toH at hgo
    rw [if_neg d0, if_neg d1, if_neg d2, if_neg d3, if_neg d0, if_neg d1, if_neg d2, if_neg d3] at hgo
    have hge := hgd.e
    unfold eH at hge
    rw [if_neg d0, if_neg d1, if_neg d2, if_neg d3] at hge
    have ql := q_len (P := Try.prog) (E := MT) (size := 12) (enc := msL) U
    cases U with
    | nil =>
      refine leaf_cut (rgK Try.prog OneF 33 [J]) _ _ calNone false 400 [hB 12 3 _ _ q1, hG 14 4 q2, hG 14 7 q3, hI 14 8 IntKind.u8 _ _ hay, hG 17 2 q2, hG 17 4 q5, hB 22 0 _ _ e0, hB 24 0 _ _ e1, hB 26 0 _ _ e2, hB 29 0 _ _ e3, hG 18 1 ql, .stop 33] calNone_ok (by kernel_rfl) (one_round F hR rfl h (by omega) A B D [] [] 1 (.inr rfl) (.inl rfl) _ (fun e => by cases e) (fun _ => ?_) (by show D.length ≤ 400; have : D.length ≤ i := hd1; omega) (Nat.zero_le _) ct hJ')
      unfold stepH; rw [if_neg d0, if_neg d1, if_neg d2, if_neg d3]; simp [outsM]
    | cons m l =>
      have g2 : decide ((0 : Int) < ((m :: l).length : Int)) = true := decide_eq_true (by simp)
      have wm := wf m (by simp)
      have c1 := hear_c A (c := 1) (by decide) m wm.2 wm.1
      have q7 := q_idx (P := Try.prog) (t := 70) (i := 0) (k := .i64) (E := MT) (size := 12) (enc := msL) (m :: l) msL_len (by decide) (by kernel_rfl) (by simp)
      have q8 := q_load (P := Try.prog) (t := 52) (b := 0 * 12) (j := 0) (cs := msS m) (u := .agg (msS m)) (E := MT) (size := 12) (enc := msL) (m :: l) (by kernel_rfl) (ms_nth (l := m :: l) (i := 0) (by simp) m)
      have q9 := q_tail (P := Try.prog) (t := 70) (E := MT) (size := 12) (enc := msL) m l msL_len (by decide) (by kernel_rfl)
      have hge : (hearQ A 1 m).e = 0 := hge
      refine leaf_cut (rgK Try.prog OneF 33 [J]) _ _ calNone false 400 [hB 12 3 _ _ q1, hG 14 4 q2, hG 14 7 q3, hI 14 8 IntKind.u8 _ _ hay, hG 17 2 q2, hG 17 4 q5, hB 22 0 _ _ e0, hB 24 0 _ _ e1, hB 26 0 _ _ e2, hB 29 0 _ _ e3, hG 18 1 ql, hB 18 2 _ _ g2, hG 19 2 q7, hG 19 3 q8, hC 19 4 c1, hI 19 7 IntKind.i64 _ _ hge, hG 20 1 q9, .stop 33] calNone_ok (by kernel_rfl) (one_round F hR rfl h (by omega) (hearQ A 1 m).b B D l (hearQ A 1 m).out 1 (.inr rfl) hgo _ (fun e => by cases e) (fun _ => ?_) (by have : D.length ≤ i := hd1; omega) (by have : (m :: l).length ≤ i := hu1; simp at this; omega) ct hJ')
      unfold stepH; rw [if_neg d0, if_neg d1, if_neg d2, if_neg d3]
  have he : i = acts.length := by omega
  subst he
  have q1 : decide ((acts.length : Int) < (acts.length : Int)) = false := decide_eq_false (by omega)
  exact leaf_end calNone false 400 [hB 12 3 _ _ q1, hC 48 0 hw] calNone_ok (by kernel_rfl)
end Go.Proofs.Ytjeppnhkgiljpaa
end
section
namespace Go.Proofs.Ytjeppnhkgiljpaa
set_option maxRecDepth 100000
open Go.RowKit Go.Lib Go.Tk Go.Shelf Go.Vc Go.Sx
set_option linter.unusedVariables false
set_option linter.unusedSimpArgs false

theorem own_at1 : ∃ v, lkt ((bookNew 0 3).issued sale16).owns (keyA 1) = some (ownNew ⟨1, 0, 1⟩ v) := by
  have hl : (shareV sale16.fare (wsOf sale16)).length = 2 := shareV_len (show shareE sale16.fare (wsOf sale16) = 0 by kernel_rfl)
  show ∃ v, lkt (issO (bookNew 0 3).nextT sale16 (shareV sale16.fare (wsOf sale16)) [] (shareV sale16.fare (wsOf sale16)).length) (keyA 1) = _
  rw [hl]
  generalize shareV sale16.fare (wsOf sale16) = vs
  exact ⟨vs.getD 1 0, rfl⟩
def MineF : Nat := 57
theorem mine_back : CallOK Try.prog MineF [.val (.int .u8 5)] [] [] (.val (.bool true)) [] := callOK_run 400 [] (by kernel_rfl) (by kernel_rfl)
theorem mine_bill : CallOK Try.prog MineF [.val (.int .u8 6)] [] [] (.val (.bool false)) [] := callOK_run 400 [] (by kernel_rfl) (by kernel_rfl)
def wantB : BookV := { bookNew 1 3 with helds := [(keyA 1, wantH held0)] }
def heldK (v : Int) : Cpn := ⟨⟨1, 0, 1⟩, v, 1, 1⟩
def heldB (v : Int) : BookV := { bookNew 1 3 with helds := [(keyA 1, newH (heldK v))] }
def givenA (v : Int) : OwnV := ⟨heldK v, true, 1, false, false⟩
theorem keyA_ok {j : Int} (h1 : 0 ≤ j) (h2 : j ≤ 255) : KidOk (keyA j) := ⟨⟨⟨by show (0 : Int) ≤ 0; decide, by show (0 : Int) ≤ 255; decide⟩, by show (0 : Int) ≤ 1; decide, by show (1 : Int) ≤ _; decide⟩, h1, h2⟩
theorem wakes16_w : CallOK Try.prog WakesF16 [] [] [] (.val (.bool true)) [] := by
  obtain ⟨v, hv⟩ := own_at1
  have n1 := new_okC (self := 0) (n := 3) (by decide) (by decide)
  have n2 := new_okC (self := 1) (n := 3) (by decide) (by decide)
  have n3 := known16_w
  have n4 := issue_okR (book_new_ok 0 3 (by decide)) sale16_ok iss16
  have n5 := mine_back
  have n6 := mine_bill
  have hself : ((bookNew 0 3).issued sale16).self = 0 := rfl
  have hn : ((bookNew 0 3).issued sale16).n = 3 := rfl
  generalize (bookNew 0 3).issued sale16 = A at *
  have k1 : KidOk (keyA 1) := keyA_ok (by decide) (by decide)
  have c1 := want_c (bookNew 1 3) k1
  rw [show wantQ (bookNew 1 3) (keyA 1) = ⟨[⟨0, ⟨1, keyA 1, cpn0, 0, 0⟩⟩], 0, wantB⟩ from rfl] at c1
  have c2 := hear_c A (c := 1) (by decide) ⟨1, keyA 1, cpn0, 0, 0⟩ (by decide) k1
  rw [show hearQ A 1 ⟨1, keyA 1, cpn0, 0, 0⟩ = ⟨[⟨1, ⟨2, keyA 1, heldK v, 0, 0⟩⟩], 0, A.setO (keyA 1) (givenA v)⟩ by unfold hearQ badHear hearDo hwantQ; rw [hself, hn, hv]; rfl] at c2
  have c3 := hear_c wantB (c := 0) (by decide) ⟨2, keyA 1, heldK v, 0, 0⟩ ⟨by show (0 : Int) ≤ 2; decide, by show (2 : Int) ≤ 255; decide⟩ k1
  rw [show hearQ wantB 0 ⟨2, keyA 1, heldK v, 0, 0⟩ = ⟨[], 0, heldB v⟩ from rfl] at c3
  have c4 := held_c (heldB v) k1
  rw [show lkt (heldB v).helds (keyA 1) = some (newH (heldK v)) from rfl] at c4
  have c5 := own_c (A.setO (keyA 1) (givenA v)) k1
  rw [setO_some hv] at c5 c2
  rw [show lkt ({ A with owns := putt A.owns (keyA 1) (givenA v) } : BookV).owns (keyA 1) = some (givenA v) by show lkt (putt A.owns (keyA 1) (givenA v)) (keyA 1) = _; rw [lkt_put, if_pos rfl]] at c5
  exact callOK_run 400 [hC 1 0 n1, hC 2 0 n2, hC 3 1 n3, hC 3 2 n4, hC 5 2 c1, hC 8 5 c2, hC 11 5 c3, hC 12 2 c4, hC 13 2 c5, hC 14 29 n5, hC 14 32 n6] (by kernel_rfl) (by kernel_rfl)
end Go.Proofs.Ytjeppnhkgiljpaa
end
