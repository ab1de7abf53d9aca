/- SxQ, Lw16, Ex0, Ex1. -/
import Derived.Test.YtlekbdpdlalhbaaSxE
import Derived.Test.YtlekbdpdlalhbaaHo4
section
namespace Go.Sx
set_option linter.unusedVariables false
set_option linter.unusedSimpArgs false
set_option linter.unusedSectionVars false
open Go.RowKit Go.Tk Go.Lib Go.Shelf Go.Vc

def QF (E : TypeId) (size : Nat) (w : World) (v : Value) (n : Nat) (xs : List Value) : Prop :=
  xs.length = n * size ∧ ((v = .slice none 0 0 ∧ n = 0) ∨ ∃ g lo cap cur, v = .slice (some ⟨g, lo * size, none⟩) n cap ∧ BoxE (some E) w g cur ∧ n ≤ cap ∧ cap ≤ maxLen ∧ (lo + cap) * size ≤ cur.size ∧ (cur.toList.drop (lo * size)).take (n * size) = xs)
theorem QF.cell {E : TypeId} {size : Nat} {w : World} {v : Value} {n : Nat} {xs : List Value} (h : QF E size w v n xs) {i : Nat} {u : Value} (hi : xs[i]? = some u) : ∃ g off cap, v = .slice (some ⟨g, off, none⟩) n cap ∧ w.cell? ⟨g, off + i, none⟩ = some u := by
  obtain ⟨hl, ⟨h1, h2⟩ | ⟨g, lo, cap, cur, hv, hb, h1, h2, h3, h4⟩⟩ := h
  · subst h2
    have := (List.getElem?_eq_some_iff.1 hi).1
    rw [hl, Nat.zero_mul] at this
    exact absurd this (Nat.not_lt_zero _)
  · refine ⟨g, _, cap, hv, hb.cell _ ?_⟩
    have hil := (List.getElem?_eq_some_iff.1 hi).1
    rw [← h4, List.getElem?_take_of_lt (by rw [← hl]; exact hil), List.getElem?_drop] at hi
    simpa using hi
theorem QF.is {E : TypeId} {size : Nat} {w : World} {v : Value} {n : Nat} {xs : List Value} (h : QF E size w v n xs) : ∃ a c, v = .slice a n c := by
  obtain ⟨hl, ⟨h1, h2⟩ | ⟨g, lo, cap, cur, hv, -⟩⟩ := h
  · exact ⟨_, _, by rw [h1, h2]⟩
  · exact ⟨_, _, hv⟩
section
variable {P : Program} {w : World}
variable {α : Type} {enc : α → List Value} {E size : Nat}
end
end Go.Sx
end
section
namespace Go.Proofs.Ytlekbdpdlalhbaa
set_option maxRecDepth 100000
open Go.RowKit Go.Lib Go.Tk Go.Shelf Go.Vc Go.Sx
set_option linter.unusedVariables false
set_option linter.unusedSimpArgs false

def legsS : List Leg → List SV
  | [] => []
  | x :: l => legS' x ++ legsS l
def taxesS : List Tax → List SV
  | [] => []
  | x :: l => taxS' x ++ taxesS l
theorem legs_dens (ε : Env) : ∀ l : List Leg, SV.dens ε (legsS l) = cellsL encLeg l
  | [] => rfl
  | x :: l => by
    unfold legsS
    rw [dens_append, legs_dens ε l]; rfl
theorem taxes_dens (ε : Env) : ∀ l : List Tax, SV.dens ε (taxesS l) = cellsL encTax l
  | [] => rfl
  | x :: l => by
    unfold taxesS
    rw [dens_append, taxes_dens ε l]; rfl
def legD (n : Nat) (l : List Leg) : SC := .row 47 3 n (.deep (legsS l)) []
def taxD (n : Nat) (l : List Tax) : SC := .row 88 2 n (.deep (taxesS l)) []
def noTen : Nat → Nat → Bool := fun s k => !(Nat.beq s 0 && (Nat.beq k 9))
theorem row_sl {E size : Nat} {w : World} {v : Value} {n : Nat} {xs : List Value} (h : RowF E size w v n xs) : ∃ a c, v = .slice a n c ∧ SlOk a n c := by
  obtain ⟨-, ⟨h1, h2⟩ | ⟨g, cap, cur, h1, -⟩⟩ := h
  · exact ⟨none, 0, by rw [h1, h2], ⟨fun _ => ⟨h2, rfl⟩⟩⟩
  · exact ⟨_, cap, h1, ⟨fun e => by cases e⟩⟩
/-- two lists that lie in rows of one's own, where a contract asks for slices of something that is only read -/
theorem raw2 {f : Nat} {args : SV → SV → List SV} {pre post : Heap} {ret : SV} {s : SaleV} (hargs : ∀ ε ε' x y x' y', SV.den ε x = SV.den ε' x' → SV.den ε y = SV.den ε' y' → (∀ s k, noTen s k = true → ε s k = ε' s k) → SV.dens ε (args x y) = SV.dens ε' (args x' y'))
    (h : ∀ (F : CF) (A : SaleA), (∀ b v, Rd (F b v) A.la (cellsL encLeg s.legs)) → (∀ b v, Rd (F b v) A.ta (cellsL encTax s.taxes)) → SlOk A.la s.legs.length A.lc → SlOk A.ta s.taxes.length A.tc →
      CallOK Try.prog f (args (.val (.slice A.la s.legs.length A.lc)) (.val (.slice A.ta s.taxes.length A.tc))) [((0, 9), .fam F)] pre ret post)
    (h1 : hok noTen pre = true) (h2 : ret.ok noTen = true) (h3 : hok noTen post = true) :
    CallOK Try.prog f (args (.raw 0 10) (.raw 0 11)) [((0, 10), legD s.legs.length s.legs), ((0, 11), taxD s.taxes.length s.taxes)] pre ret post := by
  intro ε R w hM
  have hM : Mem (rowC 47 3 (asSl (ε 0 10).2) s.legs.length (SV.dens ε (legsS s.legs)) :: rowC 88 2 (asSl (ε 0 11).2) s.taxes.length (SV.dens ε (taxesS s.taxes)) :: (hden ε pre ++ R)) w := hM
  rw [legs_dens, taxes_dens] at hM
  obtain ⟨la, lc, hvl, okl⟩ := row_sl (hM.owns 0 rfl)
  obtain ⟨ta, tc, hvt, okt⟩ := row_sl (hM.owns 1 rfl)
  rw [hvl, hvt] at hM
  have hc := h (fun _ _ => allC [rowC 47 3 (.slice la s.legs.length lc) s.legs.length (cellsL encLeg s.legs), rowC 88 2 (.slice ta s.taxes.length tc) s.taxes.length (cellsL encTax s.taxes)]) ⟨la, lc, ta, tc⟩
    (fun b v S w hS => by obtain ⟨F, f1, f2, f3⟩ := hS; exact rd_row _ _ (f2 0 _ rfl)) (fun b v S w hS => by obtain ⟨F, f1, f2, f3⟩ := hS; exact rd_row _ _ (f2 1 _ rfl)) okl okt
  have key : ∀ s k, noTen s k = true → ε s k = eset ε 0 (fun k => bif Nat.beq k 9 then (0, undef) else ε 0 k) s k := fun s k hs => by
    by_cases h0 : s = 0
    · subst h0
      rw [eset_at]
      cases hb : Nat.beq k 9 with
      | false => rfl
      | true => unfold noTen at hs; rw [hb] at hs; cases hs
    · rw [eset_ne h0]
  have hA : SV.dens ε (args (.raw 0 10) (.raw 0 11)) = SV.dens (eset ε 0 fun k => bif Nat.beq k 9 then (0, undef) else ε 0 k) (args (.val (.slice la s.legs.length lc)) (.val (.slice ta s.taxes.length tc))) :=
    hargs _ _ _ _ _ _ (by simp only [SV.den]; exact hvl) (by simp only [SV.den]; exact hvt) key
  rw [hA]
  have hM2 := Mem.in_all (l := [rowC 47 3 (.slice la s.legs.length lc) s.legs.length (cellsL encLeg s.legs), rowC 88 2 (.slice ta s.taxes.length tc) s.taxes.length (cellsL encTax s.taxes)]) hM
  rw [hden_congr key h1] at hM2
  refine (hc _ R w hM2).mono ?_
  rintro e w' ⟨x, rfl, hm⟩
  have key' : ∀ s k, noTen s k = true → eset ε 1 x s k = eset (eset ε 0 fun k => bif Nat.beq k 9 then (0, undef) else ε 0 k) 1 x s k := fun s k hs => by
    by_cases h0 : s = 1
    · subst h0; rw [eset_at, eset_at]
    · rw [eset_ne h0, eset_ne h0]; exact key s k hs
  refine ⟨x, by rw [SV.den_congr key' ret h2], ?_⟩
  have hm : Mem (allC [rowC 47 3 (.slice la s.legs.length lc) s.legs.length (cellsL encLeg s.legs), rowC 88 2 (.slice ta s.taxes.length tc) s.taxes.length (cellsL encTax s.taxes)] :: (hden (eset (eset ε 0 fun k => bif Nat.beq k 9 then (0, undef) else ε 0 k) 1 x) post ++ R)) w' := hm
  rw [← hden_congr key' h3] at hm
  have hm := hm.all
  show Mem ((legD s.legs.length s.legs).den (eset ε 1 x) 0 10 :: (taxD s.taxes.length s.taxes).den (eset ε 1 x) 0 11 :: (hden (eset ε 1 x) post ++ R)) w'
  simp only [legD, taxD, SC.den, SL.den, legs_dens, taxes_dens]
  rw [eset_ne (show (0 : Nat) ≠ 1 by decide), hvl, hvt]
  exact hm
theorem issue_args (s : SaleV) : ∀ ε ε' x y x' y', SV.den ε x = SV.den ε' x' → SV.den ε y = SV.den ε' y' → (∀ s k, noTen s k = true → ε s k = ε' s k) → SV.dens ε [.ptr 0 0 0, .agg (salS s x y)] = SV.dens ε' [.ptr 0 0 0, .agg (salS s x' y')] := fun ε ε' x y x' y' h1 h2 h3 => by
  simp only [SV.dens, SV.den, salS, h1, h2, h3 0 0 rfl]
theorem issue_okR {B : BookV} (hb : BookOk B) {s : SaleV} (ok : SaleOk s) (hm : B.issE s = 0) :
    CallOK Try.prog IssueF [.ptr 0 0 0, .agg (salS s (.raw 0 10) (.raw 0 11))] [((0, 10), legD s.legs.length s.legs), ((0, 11), taxD s.taxes.length s.taxes)] (bkC B) (.tup [.agg (docS (docMade B.nextT s) (.raw 1 0) (.raw 1 1) (.raw 1 2)), eN 0]) (bkC (B.issued s) ++ docR (docMade B.nextT s)) :=
  raw2 (args := fun x y => [.ptr 0 0 0, .agg (salS s x y)]) (issue_args s) (fun F A hl ht h1 h2 => issue_okC F hb ok hl ht h1 h2 hm) rfl rfl rfl
/-! ### what is known -/
theorem book_new_ok (self n : Int) (h : 0 ≤ self ∧ self < n ∧ 2 ≤ n ∧ n ≤ 8) : BookOk (bookNew self n) := ⟨⟨h.1, h.2.1⟩, ⟨h.2.2.1, h.2.2.2⟩, fun i d hd => by simp [bookNew] at hd, by simp [bookNew]⟩
end Go.Proofs.Ytlekbdpdlalhbaa
end
section
namespace Go.Proofs.Ytlekbdpdlalhbaa
set_option maxRecDepth 100000
open Go.RowKit Go.Lib Go.Tk Go.Shelf Go.Vc Go.Sx
set_option linter.unusedVariables false
set_option linter.unusedSimpArgs false

/-- one argument that is a row of one's own -/
theorem callOK_row1 {f E size n : Nat} {xs : List Value} {ret : SV} {post : Heap} (hr : ret.ok no0 = true) (hp : hok no0 post = true)
    (h : ∀ (F : CF) (a : Option Addr) (c : Nat), (∀ b v, Rd (F b v) a xs) → SlOk a n c → CallOK Try.prog f [.val (.slice a n c)] [((0, 0), .fam F)] [] ret post) :
    CallOK Try.prog f [.raw 0 0] [((0, 0), .row E size n (.shal xs) [])] [] ret post := by
  intro ε R w hM
  have hM : Mem (rowC E size (asSl (ε 0 0).2) n xs :: R) w := hM
  obtain ⟨a, c, hv, hok⟩ := row_sl (hM.owns 0 rfl)
  have hA : (SV.dens ε [.raw 0 0]).toArray = (SV.dens ε [.val (.slice a n c)]).toArray := by simp only [SV.dens, SV.den]; rw [hv]
  rw [hA]
  rw [hv] at hM
  refine (h (fun _ _ => rowC E size (.slice a n c) n xs) a c (fun b v S w hS => rd_row _ _ hS) hok ε R w hM).mono ?_
  rintro e w' ⟨x, rfl, hm⟩
  refine ⟨x, rfl, ?_⟩
  have hm : Mem (rowC E size (.slice a n c) n xs :: (hden (eset ε 1 x) post ++ R)) w' := hm
  show Mem (rowC E size (asSl (eset ε 1 x 0 0).2) n xs :: (hden (eset ε 1 x) post ++ R)) w'
  rw [eset_ne (show (0 : Nat) ≠ 1 by decide), hv]
  exact hm
end Go.Proofs.Ytlekbdpdlalhbaa
end
section
namespace Go.Proofs.Ytlekbdpdlalhbaa
set_option maxRecDepth 100000
open Go.RowKit Go.Lib Go.Tk Go.Shelf Go.Vc Go.Sx
set_option linter.unusedVariables false
set_option linter.unusedSimpArgs false

/-! ### how a ticket's coupons stand -/
/-- the coupons of a ticket, in order -/
def coupL (B : BookV) (t : Tid) : List OwnV :=
  match lkt B.owns ⟨t, 0⟩ with
  | none => []
  | some a => match lkt B.owns ⟨t, 1⟩ with
    | none => [a]
    | some b => match lkt B.owns ⟨t, 2⟩ with
      | none => [a, b]
      | some c => match lkt B.owns ⟨t, 3⟩ with
        | none => [a, b, c]
        | some d => [a, b, c, d]
theorem coupL_cases (B : BookV) (t : Tid) : (coupL B t = [] ∧ lkt B.owns ⟨t, 0⟩ = none) ∨ (∃ a, coupL B t = [a] ∧ lkt B.owns ⟨t, 0⟩ = some a ∧ lkt B.owns ⟨t, 1⟩ = none) ∨
    (∃ a b, coupL B t = [a, b] ∧ lkt B.owns ⟨t, 0⟩ = some a ∧ lkt B.owns ⟨t, 1⟩ = some b ∧ lkt B.owns ⟨t, 2⟩ = none) ∨
    (∃ a b c, coupL B t = [a, b, c] ∧ lkt B.owns ⟨t, 0⟩ = some a ∧ lkt B.owns ⟨t, 1⟩ = some b ∧ lkt B.owns ⟨t, 2⟩ = some c ∧ lkt B.owns ⟨t, 3⟩ = none) ∨
    (∃ a b c d, coupL B t = [a, b, c, d] ∧ lkt B.owns ⟨t, 0⟩ = some a ∧ lkt B.owns ⟨t, 1⟩ = some b ∧ lkt B.owns ⟨t, 2⟩ = some c ∧ lkt B.owns ⟨t, 3⟩ = some d) := by
  unfold coupL
  cases h0 : lkt B.owns ⟨t, 0⟩ with
  | none => exact .inl ⟨rfl, rfl⟩
  | some a =>
    cases h1 : lkt B.owns ⟨t, 1⟩ with
    | none => exact .inr (.inl ⟨a, rfl, rfl, rfl⟩)
    | some b =>
      cases h2 : lkt B.owns ⟨t, 2⟩ with
      | none => exact .inr (.inr (.inl ⟨a, b, rfl, rfl, rfl, rfl⟩))
      | some c =>
        cases h3 : lkt B.owns ⟨t, 3⟩ with
        | none => exact .inr (.inr (.inr (.inl ⟨a, b, c, rfl, rfl, rfl, rfl, rfl⟩)))
        | some d => exact .inr (.inr (.inr (.inr ⟨a, b, c, d, rfl, rfl, rfl, rfl, rfl⟩)))
def statusL (B : BookV) (t : Tid) : List Int := (coupL B t).map (·.k.s)
def stS (l : List OwnV) : List SV := l.map fun o => .val (.int .u8 o.k.s)
def stR (l : List OwnV) : SC := .row 48 1 l.length (.deep (stS l)) []
def stC (l : List Int) : SC := .row 48 1 l.length (.shal (l.map (.int .u8))) []
theorem st_den (l : List OwnV) (ε : Env) (s k : Nat) : (stR l).den ε s k = (stC (l.map (·.k.s))).den ε s k := by
  have h : ∀ l : List OwnV, SV.dens ε (stS l) = (l.map (·.k.s)).map (.int .u8) := fun l => by
    induction l with
    | nil => rfl
    | cons x l ih => show _ :: SV.dens ε (stS l) = _; rw [ih]; rfl
  unfold stR stC
  simp only [SC.den, SL.den, h, List.length_map]
def StatusF : Nat := 13
theorem kidOk_at {t : Tid} (ht : TidOk t) {i : Int} (h0 : 0 ≤ i) (h1 : i ≤ 3) : KidOk ⟨t, i⟩ := ⟨ht, by show 0 ≤ i; omega, by show i ≤ 255; omega⟩
theorem status_d (B : BookV) {t : Tid} (ht : TidOk t) : CallOK Try.prog StatusF [.ptr 0 0 0, .agg (tidS t)] (bkC B) [] (.raw 1 0) [((1, 0), stR (coupL B t))] := by
  have c0 := own_c B (kidOk_at ht (i := 0) (by decide) (by decide))
  have c1 := own_c B (kidOk_at ht (i := 1) (by decide) (by decide))
  have c2 := own_c B (kidOk_at ht (i := 2) (by decide) (by decide))
  have c3 := own_c B (kidOk_at ht (i := 3) (by decide) (by decide))
  rcases coupL_cases B t with ⟨e, h0⟩ | ⟨a, e, h0, h1⟩ | ⟨a, b, e, h0, h1, h2⟩ | ⟨a, b, c, e, h0, h1, h2, h3⟩ | ⟨a, b, c, d, e, h0, h1, h2, h3⟩
  · rw [e]; rw [h0] at c0; exact callOK_runU 900 [hC 5 5 c0] (by kernel_rfl) (by kernel_rfl)
  · rw [e]; rw [h0] at c0; rw [h1] at c1; exact callOK_runU 900 [hC 5 5 c0, hC 5 5 c1] (by kernel_rfl) (by kernel_rfl)
  · rw [e]; rw [h0] at c0; rw [h1] at c1; rw [h2] at c2; exact callOK_runU 900 [hC 5 5 c0, hC 5 5 c1, hC 5 5 c2] (by kernel_rfl) (by kernel_rfl)
  · rw [e]; rw [h0] at c0; rw [h1] at c1; rw [h2] at c2; rw [h3] at c3; exact callOK_runU 900 [hC 5 5 c0, hC 5 5 c1, hC 5 5 c2, hC 5 5 c3] (by kernel_rfl) (by kernel_rfl)
  · rw [e]; rw [h0] at c0; rw [h1] at c1; rw [h2] at c2; rw [h3] at c3; exact callOK_runU 900 [hC 5 5 c0, hC 5 5 c1, hC 5 5 c2, hC 5 5 c3] (by kernel_rfl) (by kernel_rfl)
theorem status_c (B : BookV) {t : Tid} (ht : TidOk t) : CallOK Try.prog StatusF [.ptr 0 0 0, .agg (tidS t)] (bkC B) [] (.raw 1 0) [((1, 0), stC (statusL B t))] :=
  (status_d B ht).to_post fun ε => by simp only [hden, List.map_cons, List.map_nil, st_den]; rfl
/-! ### a document -/
/-- over whichever places of the documents' lists -/
theorem bkX {f : Nat} {args : List SV} {rd post : Heap} {ret : SV} {B B' : BookV} (h : ∀ L : List (DocV × DocA), L.map (·.1) = B.docs → CallOK Try.prog f args rd (bkH (docsF L) B) ret (bkH (docsX B'.docs) B' ++ post)) : CallOK Try.prog f args rd (bkH (docsX B.docs) B) ret (bkH (docsX B'.docs) B' ++ post) := by
  intro ε R w hM
  have hM : Mem ((hden ε rd ++ hden ε (bkH (docsX B.docs) B)) ++ R) w := by rw [← hden_append]; exact hM
  have hM1 : Mem (docsX B.docs (ε 0 1).1 (ε 0 1).2 :: (((SC.box none [.val (.int .u8 B.self), .val (.int .i64 B.n), .map 0 1, .map 0 2, .map 0 3]).den ε 0 0 :: (ownsF B.owns).den ε 0 2 :: (heldsF B.helds).den ε 0 3 :: []) ++ hden ε rd ++ R)) w := by
    refine mem_perm ?_ hM
    show ((hden ε rd ++ [_, docsX B.docs (ε 0 1).1 (ε 0 1).2, _, _]) ++ R).Perm _
    refine List.Perm.trans (List.Perm.append_right R List.perm_append_comm) ?_
    simp only [List.cons_append, List.nil_append, List.append_assoc]
    exact List.Perm.swap _ _ _
  obtain ⟨x, hM2⟩ := hM1.ex
  refine h x.1 x.2 ε R w ?_
  have : Mem ((hden ε rd ++ hden ε (bkH (docsF x.1) B)) ++ R) w := by
    refine mem_perm ?_ hM2
    show (docsF x.1 (ε 0 1).1 (ε 0 1).2 :: _).Perm ((hden ε rd ++ [_, docsF x.1 (ε 0 1).1 (ε 0 1).2, _, _]) ++ R)
    refine List.Perm.trans ?_ (List.Perm.append_right R List.perm_append_comm)
    simp only [List.cons_append, List.nil_append, List.append_assoc]
    exact List.Perm.swap _ _ _
  rw [← hden_append] at this
  exact this
theorem mem_kv {L : List (DocV × DocA)} {t : Tid} {p : DocV × DocA} (h : lkt (docKV L) t = some p) : p ∈ L ∧ p.1.t = t := by
  obtain ⟨q, hq, he⟩ := List.mem_map.1 (lkt_mem h)
  cases he
  exact ⟨hq, rfl⟩
end Go.Proofs.Ytlekbdpdlalhbaa
end
