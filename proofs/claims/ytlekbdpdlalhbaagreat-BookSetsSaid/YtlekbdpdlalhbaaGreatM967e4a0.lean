/- SxQ, Lw16, Ex0, Ex1, Ex2. -/
import Derived.Test.YtlekbdpdlalhbaaGreatSxE
import Derived.Test.YtlekbdpdlalhbaaGreatHo4
section
namespace Go.Sx
set_option linter.unusedVariables false
set_option linter.unusedSimpArgs false
set_option linter.unusedSectionVars false
open Go.RowKit Go.Tk Go.Lib Go.Shelf Go.Vc

def QF (E : TypeId) (size : Nat) (w : World) (v : Value) (n : Nat) (xs : List Value) : Prop :=
  xs.length = n * size ∧ ((v = .slice none 0 0 ∧ n = 0) ∨ ∃ g lo cap cur, v = .slice (some ⟨g, lo * size, none⟩) n cap ∧ BoxE (some E) w g cur ∧ n ≤ cap ∧ cap ≤ maxLen ∧ (lo + cap) * size ≤ cur.size ∧ (cur.toList.drop (lo * size)).take (n * size) = xs)
theorem QF.cell {E : TypeId} {size : Nat} {w : World} {v : Value} {n : Nat} {xs : List Value} (h : QF E size w v n xs) {i : Nat} {u : Value} (hi : xs[i]? = some u) : ∃ g off cap, v = .slice (some ⟨g, off, none⟩) n cap ∧ w.cell? ⟨g, off + i, none⟩ = some u := by
  obtain ⟨hl, ⟨h1, h2⟩ | ⟨g, lo, cap, cur, hv, hb, h1, h2, h3, h4⟩⟩ := h
  · subst h2
    have := (List.getElem?_eq_some_iff.1 hi).1
    rw [hl, Nat.zero_mul] at this
    exact absurd this (Nat.not_lt_zero _)
  · refine ⟨g, _, cap, hv, hb.cell _ ?_⟩
    have hil := (List.getElem?_eq_some_iff.1 hi).1
    rw [← h4, List.getElem?_take_of_lt (by rw [← hl]; exact hil), List.getElem?_drop] at hi
    simpa using hi
theorem QF.is {E : TypeId} {size : Nat} {w : World} {v : Value} {n : Nat} {xs : List Value} (h : QF E size w v n xs) : ∃ a c, v = .slice a n c := by
  obtain ⟨hl, ⟨h1, h2⟩ | ⟨g, lo, cap, cur, hv, -⟩⟩ := h
  · exact ⟨_, _, by rw [h1, h2]⟩
  · exact ⟨_, _, hv⟩
def qcC (E : TypeId) (size : Nat) (v : Value) (n : Nat) (xs : List Value) : Chunk where
  at_ S w := (∀ g, v.ownBlock = some g → S g) ∧ QF E size w v n xs
  stable {S w w'} hk hi h := ⟨h.1, by
    obtain ⟨hl, h1 | ⟨g, lo, cap, cur, hv, ⟨E', fz, e1, e2, e3⟩, h2⟩⟩ := h.2
    · exact ⟨hl, .inl h1⟩
    · have e : S g := h.1 g (by rw [hv]; rfl)
      exact ⟨hl, .inr ⟨g, lo, cap, cur, hv, ⟨E', fz, e1, by rw [hk.block g e (hi g e)]; exact e2, e3⟩, h2⟩⟩⟩
theorem Mem.qs {cs : List Chunk} {w : World} (h : Mem cs w) (i : Nat) {E : TypeId} {size n : Nat} {v : Value} {xs : List Value} (hi : cs[i]? = some (qcC E size v n xs)) : QF E size w v n xs := by
  obtain ⟨F, h⟩ := h; exact (h.has i _ hi).2
section
variable {P : Program} {w : World}
variable {α : Type} {enc : α → List Value} {E size : Nat}
end
end Go.Sx
end
section
namespace Go.Proofs.YtlekbdpdlalhbaaGreat
set_option maxRecDepth 100000
open Go.RowKit Go.Lib Go.Tk Go.Shelf Go.Vc Go.Sx
set_option linter.unusedVariables false
set_option linter.unusedSimpArgs false

def legsS : List Leg → List SV
  | [] => []
  | x :: l => legS' x ++ legsS l
def taxesS : List Tax → List SV
  | [] => []
  | x :: l => taxS' x ++ taxesS l
theorem legs_dens (ε : Env) : ∀ l : List Leg, SV.dens ε (legsS l) = cellsL encLeg l
  | [] => rfl
  | x :: l => by
    unfold legsS
    rw [dens_append, legs_dens ε l]; rfl
theorem taxes_dens (ε : Env) : ∀ l : List Tax, SV.dens ε (taxesS l) = cellsL encTax l
  | [] => rfl
  | x :: l => by
    unfold taxesS
    rw [dens_append, taxes_dens ε l]; rfl
def legD (n : Nat) (l : List Leg) : SC := .row 31 3 n (.deep (legsS l)) []
def taxD (n : Nat) (l : List Tax) : SC := .row 214 2 n (.deep (taxesS l)) []
def noTen : Nat → Nat → Bool := fun s k => !(Nat.beq s 0 && (Nat.beq k 9))
theorem row_sl {E size : Nat} {w : World} {v : Value} {n : Nat} {xs : List Value} (h : RowF E size w v n xs) : ∃ a c, v = .slice a n c ∧ SlOk a n c := by
  obtain ⟨-, ⟨h1, h2⟩ | ⟨g, cap, cur, h1, -⟩⟩ := h
  · exact ⟨none, 0, by rw [h1, h2], ⟨fun _ => ⟨h2, rfl⟩⟩⟩
  · exact ⟨_, cap, h1, ⟨fun e => by cases e⟩⟩
/-- two lists that lie in rows of one's own, where a contract asks for slices of something that is only read -/
theorem raw2 {f : Nat} {args : SV → SV → List SV} {pre post : Heap} {ret : SV} {s : SaleV} (hargs : ∀ ε ε' x y x' y', SV.den ε x = SV.den ε' x' → SV.den ε y = SV.den ε' y' → (∀ s k, noTen s k = true → ε s k = ε' s k) → SV.dens ε (args x y) = SV.dens ε' (args x' y'))
    (h : ∀ (F : CF) (A : SaleA), (∀ b v, Rd (F b v) A.la (cellsL encLeg s.legs)) → (∀ b v, Rd (F b v) A.ta (cellsL encTax s.taxes)) → SlOk A.la s.legs.length A.lc → SlOk A.ta s.taxes.length A.tc →
      CallOK Tryz.prog f (args (.val (.slice A.la s.legs.length A.lc)) (.val (.slice A.ta s.taxes.length A.tc))) [((0, 9), .fam F)] pre ret post)
    (h1 : hok noTen pre = true) (h2 : ret.ok noTen = true) (h3 : hok noTen post = true) :
    CallOK Tryz.prog f (args (.raw 0 10) (.raw 0 11)) [((0, 10), legD s.legs.length s.legs), ((0, 11), taxD s.taxes.length s.taxes)] pre ret post := by
  intro ε R w hM
  have hM : Mem (rowC 31 3 (asSl (ε 0 10).2) s.legs.length (SV.dens ε (legsS s.legs)) :: rowC 214 2 (asSl (ε 0 11).2) s.taxes.length (SV.dens ε (taxesS s.taxes)) :: (hden ε pre ++ R)) w := hM
  rw [legs_dens, taxes_dens] at hM
  obtain ⟨la, lc, hvl, okl⟩ := row_sl (hM.owns 0 rfl)
  obtain ⟨ta, tc, hvt, okt⟩ := row_sl (hM.owns 1 rfl)
  rw [hvl, hvt] at hM
  have hc := h (fun _ _ => allC [rowC 31 3 (.slice la s.legs.length lc) s.legs.length (cellsL encLeg s.legs), rowC 214 2 (.slice ta s.taxes.length tc) s.taxes.length (cellsL encTax s.taxes)]) ⟨la, lc, ta, tc⟩
    (fun b v S w hS => by obtain ⟨F, f1, f2, f3⟩ := hS; exact rd_row _ _ (f2 0 _ rfl)) (fun b v S w hS => by obtain ⟨F, f1, f2, f3⟩ := hS; exact rd_row _ _ (f2 1 _ rfl)) okl okt
  have key : ∀ s k, noTen s k = true → ε s k = eset ε 0 (fun k => bif Nat.beq k 9 then (0, undef) else ε 0 k) s k := fun s k hs => by
    by_cases h0 : s = 0
    · subst h0
      rw [eset_at]
      cases hb : Nat.beq k 9 with
      | false => rfl
      | true => unfold noTen at hs; rw [hb] at hs; cases hs
    · rw [eset_ne h0]
  have hA : SV.dens ε (args (.raw 0 10) (.raw 0 11)) = SV.dens (eset ε 0 fun k => bif Nat.beq k 9 then (0, undef) else ε 0 k) (args (.val (.slice la s.legs.length lc)) (.val (.slice ta s.taxes.length tc))) :=
    hargs _ _ _ _ _ _ (by simp only [SV.den]; exact hvl) (by simp only [SV.den]; exact hvt) key
  rw [hA]
  have hM2 := Mem.in_all (l := [rowC 31 3 (.slice la s.legs.length lc) s.legs.length (cellsL encLeg s.legs), rowC 214 2 (.slice ta s.taxes.length tc) s.taxes.length (cellsL encTax s.taxes)]) hM
  rw [hden_congr key h1] at hM2
  refine (hc _ R w hM2).mono ?_
  rintro e w' ⟨x, rfl, hm⟩
  have key' : ∀ s k, noTen s k = true → eset ε 1 x s k = eset (eset ε 0 fun k => bif Nat.beq k 9 then (0, undef) else ε 0 k) 1 x s k := fun s k hs => by
    by_cases h0 : s = 1
    · subst h0; rw [eset_at, eset_at]
    · rw [eset_ne h0, eset_ne h0]; exact key s k hs
  refine ⟨x, by rw [SV.den_congr key' ret h2], ?_⟩
  have hm : Mem (allC [rowC 31 3 (.slice la s.legs.length lc) s.legs.length (cellsL encLeg s.legs), rowC 214 2 (.slice ta s.taxes.length tc) s.taxes.length (cellsL encTax s.taxes)] :: (hden (eset (eset ε 0 fun k => bif Nat.beq k 9 then (0, undef) else ε 0 k) 1 x) post ++ R)) w' := hm
  rw [← hden_congr key' h3] at hm
  have hm := hm.all
  show Mem ((legD s.legs.length s.legs).den (eset ε 1 x) 0 10 :: (taxD s.taxes.length s.taxes).den (eset ε 1 x) 0 11 :: (hden (eset ε 1 x) post ++ R)) w'
  simp only [legD, taxD, SC.den, SL.den, legs_dens, taxes_dens]
  rw [eset_ne (show (0 : Nat) ≠ 1 by decide), hvl, hvt]
  exact hm
theorem issue_args (s : SaleV) : ∀ ε ε' x y x' y', SV.den ε x = SV.den ε' x' → SV.den ε y = SV.den ε' y' → (∀ s k, noTen s k = true → ε s k = ε' s k) → SV.dens ε [.ptr 0 0 0, .agg (salS s x y)] = SV.dens ε' [.ptr 0 0 0, .agg (salS s x' y')] := fun ε ε' x y x' y' h1 h2 h3 => by
  simp only [SV.dens, SV.den, salS, h1, h2, h3 0 0 rfl]
theorem issue_okR {B : BookV} (hb : BookOk B) {s : SaleV} (ok : SaleOk s) (hm : B.issE s = 0) :
    CallOK Tryz.prog IssueF [.ptr 0 0 0, .agg (salS s (.raw 0 10) (.raw 0 11))] [((0, 10), legD s.legs.length s.legs), ((0, 11), taxD s.taxes.length s.taxes)] (bkC B) (.tup [.agg (docS (docMade B.nextT s) (.raw 1 0) (.raw 1 1) (.raw 1 2)), eN 0]) (bkC (B.issued s) ++ docR (docMade B.nextT s)) :=
  raw2 (args := fun x y => [.ptr 0 0 0, .agg (salS s x y)]) (issue_args s) (fun F A hl ht h1 h2 => issue_okC F hb ok hl ht h1 h2 hm) rfl rfl rfl
/-! ### what is known -/
theorem book_new_ok (self n : Int) (h : 0 ≤ self ∧ self < n ∧ 2 ≤ n ∧ n ≤ 8) : BookOk (bookNew self n) := ⟨⟨h.1, h.2.1⟩, ⟨h.2.2.1, h.2.2.2⟩, fun i d hd => by simp [bookNew] at hd, by simp [bookNew]⟩
end Go.Proofs.YtlekbdpdlalhbaaGreat
end
section
namespace Go.Proofs.YtlekbdpdlalhbaaGreat
set_option maxRecDepth 100000
open Go.RowKit Go.Lib Go.Tk Go.Shelf Go.Vc Go.Sx
set_option linter.unusedVariables false
set_option linter.unusedSimpArgs false

theorem callOK_pure {f : Nat} {args : List SV} {ret : SV} (h : ∀ ε w, Calls Tryz.prog f (SV.dens ε args).toArray w fun e w' => e = .returned (ret.den ε) ∧ Below w.heap.size w w') : CallOK Tryz.prog f args [] [] ret [] := by
  intro ε R w hM
  have hM : Mem R w := hM
  refine (h ε w).mono ?_
  rintro e w' ⟨rfl, hb⟩
  exact ⟨ε 1, by rw [eset_self], by rw [eset_self]; exact hM.kept hb⟩
/-- one argument that is a row of one's own -/
theorem callOK_row1 {f E size n : Nat} {xs : List Value} {ret : SV} {post : Heap} (hr : ret.ok no0 = true) (hp : hok no0 post = true)
    (h : ∀ (F : CF) (a : Option Addr) (c : Nat), (∀ b v, Rd (F b v) a xs) → SlOk a n c → CallOK Tryz.prog f [.val (.slice a n c)] [((0, 0), .fam F)] [] ret post) :
    CallOK Tryz.prog f [.raw 0 0] [((0, 0), .row E size n (.shal xs) [])] [] ret post := by
  intro ε R w hM
  have hM : Mem (rowC E size (asSl (ε 0 0).2) n xs :: R) w := hM
  obtain ⟨a, c, hv, hok⟩ := row_sl (hM.owns 0 rfl)
  have hA : (SV.dens ε [.raw 0 0]).toArray = (SV.dens ε [.val (.slice a n c)]).toArray := by simp only [SV.dens, SV.den]; rw [hv]
  rw [hA]
  rw [hv] at hM
  refine (h (fun _ _ => rowC E size (.slice a n c) n xs) a c (fun b v S w hS => rd_row _ _ hS) hok ε R w hM).mono ?_
  rintro e w' ⟨x, rfl, hm⟩
  refine ⟨x, rfl, ?_⟩
  have hm : Mem (rowC E size (.slice a n c) n xs :: (hden (eset ε 1 x) post ++ R)) w' := hm
  show Mem (rowC E size (asSl (eset ε 1 x 0 0).2) n xs :: (hden (eset ε 1 x) post ++ R)) w'
  rw [eset_ne (show (0 : Nat) ≠ 1 by decide), hv]
  exact hm
end Go.Proofs.YtlekbdpdlalhbaaGreat
end
section
namespace Go.Proofs.YtlekbdpdlalhbaaGreat
set_option maxRecDepth 100000
open Go.RowKit Go.Lib Go.Tk Go.Shelf Go.Vc Go.Sx
set_option linter.unusedVariables false
set_option linter.unusedSimpArgs false

/-! ### how a ticket's coupons stand -/
/-- the coupons of a ticket, in order -/
def coupL (B : BookV) (t : Tid) : List OwnV :=
  match lkt B.owns ⟨t, 0⟩ with
  | none => []
  | some a => match lkt B.owns ⟨t, 1⟩ with
    | none => [a]
    | some b => match lkt B.owns ⟨t, 2⟩ with
      | none => [a, b]
      | some c => match lkt B.owns ⟨t, 3⟩ with
        | none => [a, b, c]
        | some d => [a, b, c, d]
theorem coupL_cases (B : BookV) (t : Tid) : (coupL B t = [] ∧ lkt B.owns ⟨t, 0⟩ = none) ∨ (∃ a, coupL B t = [a] ∧ lkt B.owns ⟨t, 0⟩ = some a ∧ lkt B.owns ⟨t, 1⟩ = none) ∨
    (∃ a b, coupL B t = [a, b] ∧ lkt B.owns ⟨t, 0⟩ = some a ∧ lkt B.owns ⟨t, 1⟩ = some b ∧ lkt B.owns ⟨t, 2⟩ = none) ∨
    (∃ a b c, coupL B t = [a, b, c] ∧ lkt B.owns ⟨t, 0⟩ = some a ∧ lkt B.owns ⟨t, 1⟩ = some b ∧ lkt B.owns ⟨t, 2⟩ = some c ∧ lkt B.owns ⟨t, 3⟩ = none) ∨
    (∃ a b c d, coupL B t = [a, b, c, d] ∧ lkt B.owns ⟨t, 0⟩ = some a ∧ lkt B.owns ⟨t, 1⟩ = some b ∧ lkt B.owns ⟨t, 2⟩ = some c ∧ lkt B.owns ⟨t, 3⟩ = some d) := by
  unfold coupL
  cases h0 : lkt B.owns ⟨t, 0⟩ with
  | none => exact .inl ⟨rfl, rfl⟩
  | some a =>
    cases h1 : lkt B.owns ⟨t, 1⟩ with
    | none => exact .inr (.inl ⟨a, rfl, rfl, rfl⟩)
    | some b =>
      cases h2 : lkt B.owns ⟨t, 2⟩ with
      | none => exact .inr (.inr (.inl ⟨a, b, rfl, rfl, rfl, rfl⟩))
      | some c =>
        cases h3 : lkt B.owns ⟨t, 3⟩ with
        | none => exact .inr (.inr (.inr (.inl ⟨a, b, c, rfl, rfl, rfl, rfl, rfl⟩)))
        | some d => exact .inr (.inr (.inr (.inr ⟨a, b, c, d, rfl, rfl, rfl, rfl, rfl⟩)))
def statusL (B : BookV) (t : Tid) : List Int := (coupL B t).map (·.k.s)
def stS (l : List OwnV) : List SV := l.map fun o => .val (.int .u8 o.k.s)
def stR (l : List OwnV) : SC := .row 32 1 l.length (.deep (stS l)) []
def stC (l : List Int) : SC := .row 32 1 l.length (.shal (l.map (.int .u8))) []
theorem st_den (l : List OwnV) (ε : Env) (s k : Nat) : (stR l).den ε s k = (stC (l.map (·.k.s))).den ε s k := by
  have h : ∀ l : List OwnV, SV.dens ε (stS l) = (l.map (·.k.s)).map (.int .u8) := fun l => by
    induction l with
    | nil => rfl
    | cons x l ih => show _ :: SV.dens ε (stS l) = _; rw [ih]; rfl
  unfold stR stC
  simp only [SC.den, SL.den, h, List.length_map]
def StatusF : Nat := 48
theorem kidOk_at {t : Tid} (ht : TidOk t) {i : Int} (h0 : 0 ≤ i) (h1 : i ≤ 3) : KidOk ⟨t, i⟩ := ⟨ht, by show 0 ≤ i; omega, by show i ≤ 255; omega⟩
theorem status_d (B : BookV) {t : Tid} (ht : TidOk t) : CallOK Tryz.prog StatusF [.ptr 0 0 0, .agg (tidS t)] (bkC B) [] (.raw 1 0) [((1, 0), stR (coupL B t))] := by
  have c0 := own_c B (kidOk_at ht (i := 0) (by decide) (by decide))
  have c1 := own_c B (kidOk_at ht (i := 1) (by decide) (by decide))
  have c2 := own_c B (kidOk_at ht (i := 2) (by decide) (by decide))
  have c3 := own_c B (kidOk_at ht (i := 3) (by decide) (by decide))
  rcases coupL_cases B t with ⟨e, h0⟩ | ⟨a, e, h0, h1⟩ | ⟨a, b, e, h0, h1, h2⟩ | ⟨a, b, c, e, h0, h1, h2, h3⟩ | ⟨a, b, c, d, e, h0, h1, h2, h3⟩
  · rw [e]; rw [h0] at c0; exact callOK_runU 900 [hC 5 5 c0] (by kernel_rfl) (by kernel_rfl)
  · rw [e]; rw [h0] at c0; rw [h1] at c1; exact callOK_runU 900 [hC 5 5 c0, hC 5 5 c1] (by kernel_rfl) (by kernel_rfl)
  · rw [e]; rw [h0] at c0; rw [h1] at c1; rw [h2] at c2; exact callOK_runU 900 [hC 5 5 c0, hC 5 5 c1, hC 5 5 c2] (by kernel_rfl) (by kernel_rfl)
  · rw [e]; rw [h0] at c0; rw [h1] at c1; rw [h2] at c2; rw [h3] at c3; exact callOK_runU 900 [hC 5 5 c0, hC 5 5 c1, hC 5 5 c2, hC 5 5 c3] (by kernel_rfl) (by kernel_rfl)
  · rw [e]; rw [h0] at c0; rw [h1] at c1; rw [h2] at c2; rw [h3] at c3; exact callOK_runU 900 [hC 5 5 c0, hC 5 5 c1, hC 5 5 c2, hC 5 5 c3] (by kernel_rfl) (by kernel_rfl)
theorem status_c (B : BookV) {t : Tid} (ht : TidOk t) : CallOK Tryz.prog StatusF [.ptr 0 0 0, .agg (tidS t)] (bkC B) [] (.raw 1 0) [((1, 0), stC (statusL B t))] :=
  (status_d B ht).to_post fun ε => by simp only [hden, List.map_cons, List.map_nil, st_den]; rfl
/-! ### a document -/
def lkD (ds : List DocV) (t : Tid) : Option DocV := ds.find? fun d => decide (d.t = t)
theorem lkD_kv (t : Tid) : ∀ L : List (DocV × DocA), (lkt (docKV L) t).map (·.1) = lkD (L.map (·.1)) t
  | [] => rfl
  | p :: L => by
    show ((if p.1.t = t then some p else lkt (docKV L) t) : Option (DocV × DocA)).map (·.1) = _
    unfold lkD
    rw [List.map_cons, List.find?_cons]
    by_cases e : p.1.t = t
    · rw [if_pos e, decide_eq_true e]; rfl
    · rw [if_neg e, decide_eq_false e]; exact lkD_kv t L
def BdocsF : Nat := 103
def FoundD : Nat := 102
theorem bdocs_w (F : CF) (B : BookV) : CallOK Tryz.prog BdocsF [.ptr 0 0 0] (bkH F B) [] (.map 0 1) [] := callOK_run 400 [] (by kernel_rfl) (by kernel_rfl)
theorem foundD_no (L M : List (DocV × DocA)) (B : BookV) {t : Tid} (ht : TidOk t) (h : lkt (docKV L) t = none) : CallOK Tryz.prog FoundD [.ptr 0 0 0, .fn (.func BdocsF) [] [], .agg (tidS t)] (bkH (docsG L M) B) [] (.tup [.agg (docS doc0 nilS nilS nilS), eN 4]) [] := by
  have c1 := bdocs_w (docsG L M) B
  have c2 := look_docs L M ht
  rw [h] at c2
  exact callOK_run 400 [hC 4 2 c1, hG 4 4 c2] (by kernel_rfl) (by kernel_rfl)
theorem foundD_ok (L M : List (DocV × DocA)) (B : BookV) {t : Tid} (ht : TidOk t) {p : DocV × DocA} (h : lkt (docKV L) t = some p) : CallOK Tryz.prog FoundD [.ptr 0 0 0, .fn (.func BdocsF) [] [], .agg (tidS t)] (bkH (docsG L M) B) [] (.tup [.agg (docSA p.1 p.2), eN 0]) [] := by
  have c1 := bdocs_w (docsG L M) B
  have c2 := look_docs L M ht
  rw [h] at c2
  exact callOK_run 400 [hC 4 2 c1, hG 4 4 c2] (by kernel_rfl) (by kernel_rfl)
theorem cloneL_nil : CallOK Tryz.prog CloneL [nilS] [] [] nilS [] := callOK_run 400 [] (by kernel_rfl) (by kernel_rfl)
theorem cloneT_nil : CallOK Tryz.prog CloneT [nilS] [] [] nilS [] := callOK_run 400 [] (by kernel_rfl) (by kernel_rfl)
theorem cloneI_nil : CallOK Tryz.prog CloneI [nilS] [] [] nilS [] := callOK_run 400 [] (by kernel_rfl) (by kernel_rfl)
theorem copied_nil : CallOK Tryz.prog CopiedF [.agg (docS doc0 nilS nilS nilS)] [] [] (.agg (docS doc0 nilS nilS nilS)) [] := by
  have c1 := cloneL_nil
  have c2 := cloneT_nil
  have c3 := cloneI_nil
  exact callOK_run 400 [hC 1 3 c1, hC 1 7 c2, hC 1 10 c3] (by kernel_rfl) (by kernel_rfl)
def DocF : Nat := 44
/-- over whichever places of the documents' lists -/
theorem bkX {f : Nat} {args : List SV} {rd post : Heap} {ret : SV} {B B' : BookV} (h : ∀ L : List (DocV × DocA), L.map (·.1) = B.docs → CallOK Tryz.prog f args rd (bkH (docsF L) B) ret (bkH (docsX B'.docs) B' ++ post)) : CallOK Tryz.prog f args rd (bkH (docsX B.docs) B) ret (bkH (docsX B'.docs) B' ++ post) := by
  intro ε R w hM
  have hM : Mem ((hden ε rd ++ hden ε (bkH (docsX B.docs) B)) ++ R) w := by rw [← hden_append]; exact hM
  have hM1 : Mem (docsX B.docs (ε 0 1).1 (ε 0 1).2 :: (((SC.box none [.val (.int .u8 B.self), .val (.int .i64 B.n), .map 0 1, .map 0 2, .map 0 3]).den ε 0 0 :: (ownsF B.owns).den ε 0 2 :: (heldsF B.helds).den ε 0 3 :: []) ++ hden ε rd ++ R)) w := by
    refine mem_perm ?_ hM
    show ((hden ε rd ++ [_, docsX B.docs (ε 0 1).1 (ε 0 1).2, _, _]) ++ R).Perm _
    refine List.Perm.trans (List.Perm.append_right R List.perm_append_comm) ?_
    simp only [List.cons_append, List.nil_append, List.append_assoc]
    exact List.Perm.swap _ _ _
  obtain ⟨x, hM2⟩ := hM1.ex
  refine h x.1 x.2 ε R w ?_
  have : Mem ((hden ε rd ++ hden ε (bkH (docsF x.1) B)) ++ R) w := by
    refine mem_perm ?_ hM2
    show (docsF x.1 (ε 0 1).1 (ε 0 1).2 :: _).Perm ((hden ε rd ++ [_, docsF x.1 (ε 0 1).1 (ε 0 1).2, _, _]) ++ R)
    refine List.Perm.trans ?_ (List.Perm.append_right R List.perm_append_comm)
    simp only [List.cons_append, List.nil_append, List.append_assoc]
    exact List.Perm.swap _ _ _
  rw [← hden_append] at this
  exact this
theorem mem_kv {L : List (DocV × DocA)} {t : Tid} {p : DocV × DocA} (h : lkt (docKV L) t = some p) : p ∈ L ∧ p.1.t = t := by
  obtain ⟨q, hq, he⟩ := List.mem_map.1 (lkt_mem h)
  cases he
  exact ⟨hq, rfl⟩
theorem doc_no {B : BookV} {t : Tid} (ht : TidOk t) (h : lkD B.docs t = none) : CallOK Tryz.prog DocF [.ptr 0 0 0, .agg (tidS t)] [] (bkC B) (.tup [.agg (docS doc0 nilS nilS nilS), eN 4]) (bkC B) := by
  refine shut (post := []) (bkX (post := []) fun L hL => ?_) rfl rfl rfl rfl
  have hn : lkt (docKV L) t = none := by
    have := lkD_kv t L
    rw [hL, h] at this
    cases e : lkt (docKV L) t with
    | none => rfl
    | some p => rw [e] at this; cases this
  have c1 := foundD_no L [] B ht hn
  have c2 := copied_nil
  have key : CallOK Tryz.prog DocF [.ptr 0 0 0, .agg (tidS t)] [] (bkH (docsF L) B) (.tup [.agg (docS doc0 nilS nilS nilS), eN 4]) (bkH (docsF L) B ++ []) := callOK_run 400 [hC 1 2 c1, hC 2 1 c2] (by kernel_rfl) (by kernel_rfl)
  exact key.post_mono fun ε R w hM => by
    have hM : Mem (_ :: docsF L (ε 0 1).1 (ε 0 1).2 :: _) w := hM
    have h1 := hM.front 1 rfl
    have h2 : Mem (docsX B.docs (ε 0 1).1 (ε 0 1).2 :: _) w := Mem.in_ex ⟨L, hL⟩ h1
    exact h2.front 1 rfl
theorem doc_ok {B : BookV} {t : Tid} (ht : TidOk t) {d : DocV} (h : lkD B.docs t = some d) (sm : DocSmall d) : CallOK Tryz.prog DocF [.ptr 0 0 0, .agg (tidS t)] [] (bkC B) (.tup [.agg (docS d (.raw 1 0) (.raw 1 1) (.raw 1 2)), eN 0]) (bkC B ++ docR d) := by
  refine shut (bkX fun L hL => ?_) rfl rfl rfl rfl
  obtain ⟨p, hp, rfl⟩ : ∃ p, lkt (docKV L) t = some p ∧ p.1 = d := by
    have := lkD_kv t L
    rw [hL, h] at this
    cases e : lkt (docKV L) t with
    | none => rw [e] at this; cases this
    | some p => rw [e] at this; exact ⟨p, rfl, by simpa using this⟩
  have c1 := foundD_ok L [] B ht hp
  have c2 := copied_in L p (mem_kv hp).1 sm
  rw [hL] at c2
  exact callOK_run 400 [hC 1 2 c1, hC 2 1 c2] (by kernel_rfl) (by kernel_rfl)
end Go.Proofs.YtlekbdpdlalhbaaGreat
end
section
namespace Go.Proofs.YtlekbdpdlalhbaaGreat
set_option maxRecDepth 100000
open Go.RowKit Go.Lib Go.Tk Go.Shelf Go.Vc Go.Sx
set_option linter.unusedVariables false
set_option linter.unusedSimpArgs false

theorem cloneL_raw {n : Nat} {l : List Leg} (hl : l.length = n) (hn : n ≤ 1073741824) : CallOK Tryz.prog CloneL [.raw 0 0] [((0, 0), legR n l)] [] (.raw 1 0) [((1, 0), legR n l)] :=
  callOK_row1 rfl rfl fun F a c hR ok => cloneL0 F hR hl ok hn
theorem cloneT_raw {n : Nat} {l : List Tax} (hl : l.length = n) (hn : n ≤ 1073741824) : CallOK Tryz.prog CloneT [.raw 0 0] [((0, 0), taxR n l)] [] (.raw 1 0) [((1, 0), taxR n l)] :=
  callOK_row1 rfl rfl fun F a c hR ok => cloneT0 F hR hl ok hn
theorem cloneI_raw {n : Nat} {l : List Int} (hl : l.length = n) (hn : n ≤ 1073741824) : CallOK Tryz.prog CloneI [.raw 0 0] [((0, 0), i64R n l)] [] (.raw 1 0) [((1, 0), i64R n l)] :=
  callOK_row1 rfl rfl fun F a c hR ok => cloneI0 F hR hl ok hn
/-- a document's lists, handed in -/
def docI (d : DocV) : Heap := [((0, 10), legR d.s.legs.length d.s.legs), ((0, 11), taxR d.s.taxes.length d.s.taxes), ((0, 12), i64R d.vals.length d.vals)]
def docRaw (d : DocV) : SV := .agg (docS d (.raw 0 10) (.raw 0 11) (.raw 0 12))
theorem copied_raw {d : DocV} (sm : DocSmall d) : CallOK Tryz.prog CopiedF [docRaw d] (docI d) [] (.agg (docS d (.raw 1 0) (.raw 1 1) (.raw 1 2))) (docR d) := by
  have k1 := cloneL_raw (l := d.s.legs) rfl sm.nl
  have k2 := cloneT_raw (l := d.s.taxes) rfl sm.nt
  have k3 := cloneI_raw (l := d.vals) rfl sm.nv
  exact callOK_run 400 [hC 1 3 k1, hC 1 7 k2, hC 1 10 k3] (by kernel_rfl) (by kernel_rfl)
/-- a document in the place of the one of its ticket -/
def putD (ds : List DocV) (d : DocV) : List DocV := ds.map fun x => if x.t = d.t then d else x
def BookV.setD (B : BookV) (d : DocV) : BookV := { B with docs := putD B.docs d }
def SetDocF : Nat := 34
/-- in the list that the map's is -/
def putDA (L : List (DocV × DocA)) (p : DocV × DocA) : List (DocV × DocA) := L.map fun x => if x.1.t = p.1.t then p else x
theorem putDA_fst (p : DocV × DocA) : ∀ L : List (DocV × DocA), (putDA L p).map (·.1) = putD (L.map (·.1)) p.1
  | [] => rfl
  | x :: L => by
    have ih := putDA_fst p L
    unfold putDA putD at ih ⊢
    simp only [List.map_cons, ih]
    by_cases e : x.1.t = p.1.t
    · rw [if_pos e, if_pos e]
    · rw [if_neg e, if_neg e]
theorem putDA_kv (p : DocV × DocA) : ∀ {L : List (DocV × DocA)}, ((docKV L).map (·.1)).Nodup → (lkt (docKV L) p.1.t).isSome = true → putt (docKV L) p.1.t p = docKV (putDA L p)
  | [], _, h => by cases h
  | x :: L, hn, h => by
    have hn : (x.1.t :: (docKV L).map (·.1)).Nodup := hn
    rw [List.nodup_cons] at hn
    show (if _ then _ else _) = _
    by_cases e : x.1.t = p.1.t
    · rw [if_pos e]
      have hL : putDA L p = L := by
        unfold putDA
        refine (List.map_congr_left fun y hy => ?_).trans (List.map_id L)
        have : y.1.t ≠ p.1.t := fun q => hn.1 (by rw [e, ← q]; exact List.mem_map_of_mem (f := (·.1)) (List.mem_map_of_mem (f := fun p : DocV × DocA => (p.1.t, p)) hy))
        rw [if_neg this]; rfl
      show _ = docKV ((if _ then _ else _) :: putDA L p)
      rw [if_pos e, hL]
      rfl
    · rw [if_neg e]
      have h' : (lkt (docKV L) p.1.t).isSome = true := by
        have h : ((if _ then _ else _) : Option _).isSome = true := h
        rwa [if_neg e] at h
      show _ :: putt (docKV L) p.1.t p = docKV ((if _ then _ else _) :: putDA L p)
      rw [if_neg e, putDA_kv p hn.2 h']; rfl
/-- a document whose lists lie in rows of one's own is set -/
theorem upd_docsL (L : List (DocV × DocA)) (d : DocV) (ht : TidOk d.t) (hn : ((docKV L).map (·.1)).Nodup) (hs : (lkt (docKV L) d.t).isSome = true) :
    OpG Tryz.prog (isUp DT) upXYZ [.map 0 0, .agg (tidS d.t), .agg (docS d (.raw 0 1) (.raw 0 2) (.raw 0 3))] [] [((0, 0), .fam (docsF L)), ((0, 1), legR d.s.legs.length d.s.legs), ((0, 2), taxR d.s.taxes.length d.s.taxes), ((0, 3), i64R d.vals.length d.vals)] (.val undef) [((0, 0), .fam (docsX (putD (L.map (·.1)) d)))] := by
  intro o ho
  refine ⟨(upd_docs [] [(d, docA0)] (d, docA0) ht (List.Perm.refl _) o ho).1, fun ε ρ R w hx hM => ?_⟩
  have hM : Mem (docsF L (ε 0 0).1 (ε 0 0).2 :: rowC 31 3 (asSl (ε 0 1).2) d.s.legs.length (cellsL encLeg d.s.legs) :: rowC 214 2 (asSl (ε 0 2).2) d.s.taxes.length (cellsL encTax d.s.taxes) :: rowC 2 1 (asSl (ε 0 3).2) d.vals.length (d.vals.map (.int .i64)) :: R) w := hM
  obtain ⟨la, lc, hvl, okl⟩ := row_sl (hM.owns 1 rfl)
  obtain ⟨ta, tc, hvt, okt⟩ := row_sl (hM.owns 2 rfl)
  obtain ⟨va, vc, hvv, okv⟩ := row_sl (hM.owns 3 rfl)
  rw [hvl, hvt, hvv] at hM
  have hM2 := docs_join (p := (d, ⟨la, lc, ta, tc, va, vc⟩)) rfl rfl rfl hM
  have hp : (putt (docKV L) d.t (d, (⟨la, lc, ta, tc, va, vc⟩ : DocA))).Perm (docKV (putDA L (d, ⟨la, lc, ta, tc, va, vc⟩))) := by
    rw [putDA_kv (d, ⟨la, lc, ta, tc, va, vc⟩) hn hs]
  have hA : SV.dens ε [.map 0 0, .agg (tidS d.t), .agg (docS d (.raw 0 1) (.raw 0 2) (.raw 0 3))] = SV.dens ε [.map 0 0, .agg (tidS d.t), .agg (docSA d ⟨la, lc, ta, tc, va, vc⟩)] := by
    simp only [SV.dens, SV.den, docS, docSA, hvl, hvt, hvv]
  rw [hA] at hx
  have := (upd_docs L (putDA L (d, ⟨la, lc, ta, tc, va, vc⟩)) (d, ⟨la, lc, ta, tc, va, vc⟩) ht hp o ho).2 ε ρ R w hx hM2
  exact res_mono (fun u w' ⟨x, h1, h2⟩ => ⟨x, h1, by
    have h2 : Mem (docsF (putDA L (d, ⟨la, lc, ta, tc, va, vc⟩)) (eset ε 1 x 0 0).1 (eset ε 1 x 0 0).2 :: R) w' := h2
    have h3 : Mem (docsX (putD (L.map (·.1)) d) (eset ε 1 x 0 0).1 (eset ε 1 x 0 0).2 :: R) w' := Mem.in_ex ⟨putDA L (d, ⟨la, lc, ta, tc, va, vc⟩), putDA_fst _ L⟩ h2
    exact h3⟩) this
theorem setDoc_ok {B : BookV} {d : DocV} (ht : TidOk d.t) {d0 : DocV} (h : lkD B.docs d.t = some d0) (hn : (B.docs.map (·.t)).Nodup) (sm : DocSmall d) : CallOK Tryz.prog SetDocF [.ptr 0 0 0, docRaw d] (docI d) (bkC B) (eN 0) (bkC (B.setD d)) := by
  refine shut (post := []) (bkX (post := []) fun L hL => ?_) rfl rfl rfl rfl
  obtain ⟨p0, hp0⟩ : ∃ p, lkt (docKV L) d.t = some p := by
    have := lkD_kv d.t L
    rw [hL, h] at this
    cases e : lkt (docKV L) d.t with
    | none => rw [e] at this; cases this
    | some p => exact ⟨p, rfl⟩
  have hnk : ((docKV L).map (·.1)).Nodup := by rw [docKV_map, hL]; exact hn
  have c1 := foundD_ok L [] B ht hp0
  have c2 := copied_raw sm
  have c3 := upd_docsL L d ht hnk (by rw [hp0]; rfl)
  rw [hL] at c3
  exact callOK_run 400 [hC 1 3 c1, hC 4 7 c2, hG 4 8 c3] (by kernel_rfl) (by kernel_rfl)
end Go.Proofs.YtlekbdpdlalhbaaGreat
end
