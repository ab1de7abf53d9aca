/- Lw16, Ex0, Bi1. -/
import Derived.Test.YtlamaakconjkcaaHo4
import Derived.Test.YtlamaakconjkcaaSxQ
import Derived.Test.YtlamaakconjkcaaM51a13c8
section
namespace Go.Proofs.Ytlamaakconjkcaa
set_option maxRecDepth 100000
open Go.RowKit Go.Lib Go.Tk Go.Shelf Go.Vc Go.Sx
set_option linter.unusedVariables false
set_option linter.unusedSimpArgs false

def legsS : List Leg → List SV
  | [] => []
  | x :: l => legS' x ++ legsS l
def taxesS : List Tax → List SV
  | [] => []
  | x :: l => taxS' x ++ taxesS l
theorem legs_dens (ε : Env) : ∀ l : List Leg, SV.dens ε (legsS l) = cellsL encLeg l
  | [] => rfl
  | x :: l => by
    unfold legsS
    rw [dens_append, legs_dens ε l]; rfl
theorem taxes_dens (ε : Env) : ∀ l : List Tax, SV.dens ε (taxesS l) = cellsL encTax l
  | [] => rfl
  | x :: l => by
    unfold taxesS
    rw [dens_append, taxes_dens ε l]; rfl
def legD (n : Nat) (l : List Leg) : SC := .row 30 3 n (.deep (legsS l)) []
def taxD (n : Nat) (l : List Tax) : SC := .row 127 2 n (.deep (taxesS l)) []
def noTen : Nat → Nat → Bool := fun s k => !(Nat.beq s 0 && (Nat.beq k 9))
theorem row_sl {E size : Nat} {w : World} {v : Value} {n : Nat} {xs : List Value} (h : RowF E size w v n xs) : ∃ a c, v = .slice a n c ∧ SlOk a n c := by
  obtain ⟨-, ⟨h1, h2⟩ | ⟨g, cap, cur, h1, -⟩⟩ := h
  · exact ⟨none, 0, by rw [h1, h2], ⟨fun _ => ⟨h2, rfl⟩⟩⟩
  · exact ⟨_, cap, h1, ⟨fun e => by cases e⟩⟩
/-- two lists that lie in rows of one's own, where a contract asks for slices of something that is only read -/
theorem raw2 {f : Nat} {args : SV → SV → List SV} {pre post : Heap} {ret : SV} {s : SaleV} (hargs : ∀ ε ε' x y x' y', SV.den ε x = SV.den ε' x' → SV.den ε y = SV.den ε' y' → (∀ s k, noTen s k = true → ε s k = ε' s k) → SV.dens ε (args x y) = SV.dens ε' (args x' y'))
    (h : ∀ (F : CF) (A : SaleA), (∀ b v, Rd (F b v) A.la (cellsL encLeg s.legs)) → (∀ b v, Rd (F b v) A.ta (cellsL encTax s.taxes)) → SlOk A.la s.legs.length A.lc → SlOk A.ta s.taxes.length A.tc →
      CallOK Try.prog f (args (.val (.slice A.la s.legs.length A.lc)) (.val (.slice A.ta s.taxes.length A.tc))) [((0, 9), .fam F)] pre ret post)
    (h1 : hok noTen pre = true) (h2 : ret.ok noTen = true) (h3 : hok noTen post = true) :
    CallOK Try.prog f (args (.raw 0 10) (.raw 0 11)) [((0, 10), legD s.legs.length s.legs), ((0, 11), taxD s.taxes.length s.taxes)] pre ret post := by
  intro ε R w hM
  have hM : Mem (rowC 30 3 (asSl (ε 0 10).2) s.legs.length (SV.dens ε (legsS s.legs)) :: rowC 127 2 (asSl (ε 0 11).2) s.taxes.length (SV.dens ε (taxesS s.taxes)) :: (hden ε pre ++ R)) w := hM
  rw [legs_dens, taxes_dens] at hM
  obtain ⟨la, lc, hvl, okl⟩ := row_sl (hM.owns 0 rfl)
  obtain ⟨ta, tc, hvt, okt⟩ := row_sl (hM.owns 1 rfl)
  rw [hvl, hvt] at hM
  have hc := h (fun _ _ => allC [rowC 30 3 (.slice la s.legs.length lc) s.legs.length (cellsL encLeg s.legs), rowC 127 2 (.slice ta s.taxes.length tc) s.taxes.length (cellsL encTax s.taxes)]) ⟨la, lc, ta, tc⟩
    (fun b v S w hS => by obtain ⟨F, f1, f2, f3⟩ := hS; exact rd_row _ _ (f2 0 _ rfl)) (fun b v S w hS => by obtain ⟨F, f1, f2, f3⟩ := hS; exact rd_row _ _ (f2 1 _ rfl)) okl okt
  have key : ∀ s k, noTen s k = true → ε s k = eset ε 0 (fun k => bif Nat.beq k 9 then (0, undef) else ε 0 k) s k := fun s k hs => by
    by_cases h0 : s = 0
    · subst h0
      rw [eset_at]
      cases hb : Nat.beq k 9 with
      | false => rfl
      | true => unfold noTen at hs; rw [hb] at hs; cases hs
    · rw [eset_ne h0]
  have hA : SV.dens ε (args (.raw 0 10) (.raw 0 11)) = SV.dens (eset ε 0 fun k => bif Nat.beq k 9 then (0, undef) else ε 0 k) (args (.val (.slice la s.legs.length lc)) (.val (.slice ta s.taxes.length tc))) :=
    hargs _ _ _ _ _ _ (by simp only [SV.den]; exact hvl) (by simp only [SV.den]; exact hvt) key
  rw [hA]
  have hM2 := Mem.in_all (l := [rowC 30 3 (.slice la s.legs.length lc) s.legs.length (cellsL encLeg s.legs), rowC 127 2 (.slice ta s.taxes.length tc) s.taxes.length (cellsL encTax s.taxes)]) hM
  rw [hden_congr key h1] at hM2
  refine (hc _ R w hM2).mono ?_
  rintro e w' ⟨x, rfl, hm⟩
  have key' : ∀ s k, noTen s k = true → eset ε 1 x s k = eset (eset ε 0 fun k => bif Nat.beq k 9 then (0, undef) else ε 0 k) 1 x s k := fun s k hs => by
    by_cases h0 : s = 1
    · subst h0; rw [eset_at, eset_at]
    · rw [eset_ne h0, eset_ne h0]; exact key s k hs
  refine ⟨x, by rw [SV.den_congr key' ret h2], ?_⟩
  have hm : Mem (allC [rowC 30 3 (.slice la s.legs.length lc) s.legs.length (cellsL encLeg s.legs), rowC 127 2 (.slice ta s.taxes.length tc) s.taxes.length (cellsL encTax s.taxes)] :: (hden (eset (eset ε 0 fun k => bif Nat.beq k 9 then (0, undef) else ε 0 k) 1 x) post ++ R)) w' := hm
  rw [← hden_congr key' h3] at hm
  have hm := hm.all
  show Mem ((legD s.legs.length s.legs).den (eset ε 1 x) 0 10 :: (taxD s.taxes.length s.taxes).den (eset ε 1 x) 0 11 :: (hden (eset ε 1 x) post ++ R)) w'
  simp only [legD, taxD, SC.den, SL.den, legs_dens, taxes_dens]
  rw [eset_ne (show (0 : Nat) ≠ 1 by decide), hvl, hvt]
  exact hm
theorem issue_args (s : SaleV) : ∀ ε ε' x y x' y', SV.den ε x = SV.den ε' x' → SV.den ε y = SV.den ε' y' → (∀ s k, noTen s k = true → ε s k = ε' s k) → SV.dens ε [.ptr 0 0 0, .agg (salS s x y)] = SV.dens ε' [.ptr 0 0 0, .agg (salS s x' y')] := fun ε ε' x y x' y' h1 h2 h3 => by
  simp only [SV.dens, SV.den, salS, h1, h2, h3 0 0 rfl]
theorem issue_okR {B : BookV} (hb : BookOk B) {s : SaleV} (ok : SaleOk s) (hm : B.issE s = 0) :
    CallOK Try.prog IssueF [.ptr 0 0 0, .agg (salS s (.raw 0 10) (.raw 0 11))] [((0, 10), legD s.legs.length s.legs), ((0, 11), taxD s.taxes.length s.taxes)] (bkC B) (.tup [.agg (docS (docMade B.nextT s) (.raw 1 0) (.raw 1 1) (.raw 1 2)), eN 0]) (bkC (B.issued s) ++ docR (docMade B.nextT s)) :=
  raw2 (args := fun x y => [.ptr 0 0 0, .agg (salS s x y)]) (issue_args s) (fun F A hl ht h1 h2 => issue_okC F hb ok hl ht h1 h2 hm) rfl rfl rfl
/-! ### what is known -/
def sale16 : SaleV := ⟨⟨#[68, 79, 69, 47, 74]⟩, [⟨0, 0, 1⟩, ⟨1, 0, 1⟩], 101, [], 20⟩
def sale16b : SaleV := ⟨⟨#[68, 79, 69, 47, 74]⟩, [⟨0, 0, 1⟩, ⟨1, 0, 1⟩, ⟨1, 0, 2⟩, ⟨0, 0, 3⟩], 101, [], 20⟩
theorem sale16_ok : SaleOk sale16 where
  name := by unfold maxLen; decide
  legs := by intro l hl; simp [sale16] at hl; rcases hl with rfl | rfl <;> (unfold LegOk; decide)
  taxes := by intro t ht; cases ht
  fare := by decide
  pen := by decide
  nl := by decide
  nt := by decide
theorem sale16b_ok : SaleOk sale16b where
  name := by unfold maxLen; decide
  legs := by intro l hl; simp [sale16b] at hl; rcases hl with rfl | rfl | rfl | rfl <;> (unfold LegOk; decide)
  taxes := by intro t ht; cases ht
  fare := by decide
  pen := by decide
  nl := by decide
  nt := by decide
theorem book_new_ok (self n : Int) (h : 0 ≤ self ∧ self < n ∧ 2 ≤ n ∧ n ≤ 8) : BookOk (bookNew self n) := ⟨⟨h.1, h.2.1⟩, ⟨h.2.2.1, h.2.2.2⟩, fun i d hd => by simp [bookNew] at hd, by simp [bookNew]⟩
theorem iss16 : (bookNew 0 3).issE sale16 = 0 := by kernel_rfl
theorem iss16b : (bookNew 0 2).issE sale16b = 0 := by kernel_rfl
end Go.Proofs.Ytlamaakconjkcaa
end
section
namespace Go.Proofs.Ytlamaakconjkcaa
set_option maxRecDepth 100000
open Go.RowKit Go.Lib Go.Tk Go.Shelf Go.Vc Go.Sx
set_option linter.unusedVariables false
set_option linter.unusedSimpArgs false

theorem callOK_pure {f : Nat} {args : List SV} {ret : SV} (h : ∀ ε w, Calls Try.prog f (SV.dens ε args).toArray w fun e w' => e = .returned (ret.den ε) ∧ Below w.heap.size w w') : CallOK Try.prog f args [] [] ret [] := by
  intro ε R w hM
  have hM : Mem R w := hM
  refine (h ε w).mono ?_
  rintro e w' ⟨rfl, hb⟩
  exact ⟨ε 1, by rw [eset_self], by rw [eset_self]; exact hM.kept hb⟩
/-- one argument that is a row of one's own -/
theorem callOK_row1 {f E size n : Nat} {xs : List Value} {ret : SV} {post : Heap} (hr : ret.ok no0 = true) (hp : hok no0 post = true)
    (h : ∀ (F : CF) (a : Option Addr) (c : Nat), (∀ b v, Rd (F b v) a xs) → SlOk a n c → CallOK Try.prog f [.val (.slice a n c)] [((0, 0), .fam F)] [] ret post) :
    CallOK Try.prog f [.raw 0 0] [((0, 0), .row E size n (.shal xs) [])] [] ret post := by
  intro ε R w hM
  have hM : Mem (rowC E size (asSl (ε 0 0).2) n xs :: R) w := hM
  obtain ⟨a, c, hv, hok⟩ := row_sl (hM.owns 0 rfl)
  have hA : (SV.dens ε [.raw 0 0]).toArray = (SV.dens ε [.val (.slice a n c)]).toArray := by simp only [SV.dens, SV.den]; rw [hv]
  rw [hA]
  rw [hv] at hM
  refine (h (fun _ _ => rowC E size (.slice a n c) n xs) a c (fun b v S w hS => rd_row _ _ hS) hok ε R w hM).mono ?_
  rintro e w' ⟨x, rfl, hm⟩
  refine ⟨x, rfl, ?_⟩
  have hm : Mem (rowC E size (.slice a n c) n xs :: (hden (eset ε 1 x) post ++ R)) w' := hm
  show Mem (rowC E size (asSl (eset ε 1 x 0 0).2) n xs :: (hden (eset ε 1 x) post ++ R)) w'
  rw [eset_ne (show (0 : Nat) ≠ 1 by decide), hv]
  exact hm
end Go.Proofs.Ytlamaakconjkcaa
end
section
namespace Go.Proofs.Ytlamaakconjkcaa
set_option maxRecDepth 100000
open Go.RowKit Go.Lib Go.Tk Go.Shelf Go.Vc Go.Sx
set_option linter.unusedVariables false
set_option linter.unusedSimpArgs false

def NextF : Nat := 31
theorem next_w {s c : Int} (hs : 0 ≤ s ∧ s ≤ 255) (hc : 0 ≤ c ∧ c ≤ 255) : CallOK Try.prog NextF [.val (.int .u8 s), .val (.int .u8 c)] [] [] (.tup [.val (.int .u8 (nextI s c).1), eN (nextI s c).2]) [] := by
  exact callOK_pure fun ε w => next_any s c w (wf_u8 hs) (wf_u8 hc)
def BtellF : Nat := 32
theorem btell_w (c : Int) (m : MsV) : CallOK Try.prog BtellF [.val (.int .u8 c), .agg (msS m)] [] [] (.raw 1 0) [((1, 0), outsR [⟨c, m⟩])] := callOK_run 400 [] (by kernel_rfl) (by kernel_rfl)
/-! ### a coupon of the carrier's own -/
def usedP (o : OwnV) (s : Int) (p : Bool) : OwnV := { o with k := { o.k with s := s }, paid := p }
def usedO (o : OwnV) (s : Int) : OwnV := usedP o s (o.paid || decide (s = 4))
def useOwn (B : BookV) (k : Kid) (cmd : Int) : HR :=
  let o := (lkt B.owns k).getD own0
  bif !(lkt B.owns k).isSome then ⟨[], 4, B⟩
  else bif o.away || !decide (o.k.l.c = B.self) then ⟨[], 160, B⟩
  else bif !decide ((nextI o.k.s cmd).2 = 0) then ⟨[], (nextI o.k.s cmd).2, B⟩
  else ⟨[], 0, B.setO k (usedO o (nextI o.k.s cmd).1)⟩
def BownF : Nat := 30
theorem bown_w (F : CF) (B : BookV) {k : Kid} (hk : KidOk k) {cmd : Int} (hc : 0 ≤ cmd ∧ cmd ≤ 255) (hs : ∀ o, lkt B.owns k = some o → 0 ≤ o.k.s ∧ o.k.s ≤ 255) :
    CallOK Try.prog BownF [.ptr 0 0 0, .agg (kidS k), .val (.int .u8 cmd)] [] (bkH F B) (eN (useOwn B k cmd).e) (bkH F (useOwn B k cmd).b) := by
  have c1 := own_w F B hk
  have c4 := self_w F B
  unfold useOwn
  cases hl : lkt B.owns k with
  | none =>
    rw [hl] at c1
    exact callOK_run 400 [hC 1 2 c1] (by kernel_rfl) (by kernel_rfl)
  | some o =>
    rw [hl] at c1
    have c2 := setOwn_w F B hk (usedO o (nextI o.k.s cmd).1)
    have c3 := next_w (hs o hl) hc
    rw [hl] at c2
    simp only [Option.getD_some]
    rcases Bool.eq_false_or_eq_true o.away with e1 | e1
    · simp only [e1]; exact callOK_run 400 [hC 1 2 c1, hB 4 1 _ _ e1] (by kernel_rfl) (by kernel_rfl)
    rcases Bool.eq_false_or_eq_true (decide (o.k.l.c = B.self)) with e2 | e2
    · have e2' : (!decide (o.k.l.c = B.self)) = false := by rw [e2]; rfl
      rcases Bool.eq_false_or_eq_true (decide ((nextI o.k.s cmd).2 = 0)) with e3 | e3
      · have e3' : (!decide ((nextI o.k.s cmd).2 = 0)) = false := by rw [e3]; rfl
        unfold usedO at c2 ⊢
        rcases Bool.eq_false_or_eq_true o.paid with e4 | e4 <;> rcases Bool.eq_false_or_eq_true (decide ((nextI o.k.s cmd).1 = 4)) with e5 | e5 <;> simp only [e1, e2, e3, e4, e5] at c2 ⊢ <;> exact callOK_run 400 [hC 1 2 c1, hB 4 1 _ _ e1, hC 4 8 c4, hB 4 9 _ _ e2', hC 6 4 c3, hB 7 1 _ _ e3', hB 9 1 _ _ e4, hB 9 6 _ _ e5, hC 10 3 c2] (by kernel_rfl) (by kernel_rfl)
      · have e3' : (!decide ((nextI o.k.s cmd).2 = 0)) = true := by rw [e3]; rfl
        simp only [e1, e2, e3]
        exact callOK_run 400 [hC 1 2 c1, hB 4 1 _ _ e1, hC 4 8 c4, hB 4 9 _ _ e2', hC 6 4 c3, hB 7 1 _ _ e3'] (by kernel_rfl) (by kernel_rfl)
    · have e2' : (!decide (o.k.l.c = B.self)) = true := by rw [e2]; rfl
      simp only [e1, e2]; exact callOK_run 400 [hC 1 2 c1, hB 4 1 _ _ e1, hC 4 8 c4, hB 4 9 _ _ e2'] (by kernel_rfl) (by kernel_rfl)
/-! ### Use -/
def billO (k : Kid) (amt : Int) : OutV := ⟨k.t.c, ⟨6, k, cpn0, amt, 0⟩⟩
def usedHP (h : HeldV) (s : Int) (p : Bool) : HeldV := { h with k := { h.k with s := s }, billed := p }
def usedH (h : HeldV) (s : Int) : HeldV := usedHP h s (h.billed || decide (s = 4))
def useB (cmd : Int) : Bool := decide (9 ≤ cmd) && decide (cmd ≤ 12)
def useHeld (B : BookV) (k : Kid) (cmd : Int) : HR :=
  let h := (lkt B.helds k).getD held0
  bif !(lkt B.helds k).isSome then ⟨[], 4, B⟩
  else bif !h.here then ⟨[], 160, B⟩
  else bif !decide ((nextI h.k.s cmd).2 = 0) then ⟨[], (nextI h.k.s cmd).2, B⟩
  else ⟨bif decide ((nextI h.k.s cmd).1 = 4) then [billO k h.k.v] else [], 0, B.setH k (usedH h (nextI h.k.s cmd).1)⟩
def useQ (B : BookV) (k : Kid) (cmd : Int) : HR :=
  bif !useB cmd then ⟨[], 1, B⟩ else bif decide (k.t.c = B.self) then ⟨[], (useOwn B k cmd).e, (useOwn B k cmd).b⟩ else useHeld B k cmd
def UseF : Nat := 8
theorem use_no {cmd : Int} (h : useB cmd = false) : decide (cmd = 9) = false ∧ decide (cmd = 10) = false ∧ decide (cmd = 11) = false ∧ decide (cmd = 12) = false := by
  unfold useB at h
  simp only [Bool.and_eq_false_iff, decide_eq_false_iff_not] at h ⊢
  omega
theorem use_yes {cmd : Int} (h : useB cmd = true) : cmd = 9 ∨ cmd = 10 ∨ cmd = 11 ∨ cmd = 12 := by
  unfold useB at h
  simp only [Bool.and_eq_true, decide_eq_true_eq] at h
  omega
theorem use_w (F : CF) (B : BookV) {k : Kid} (hk : KidOk k) {cmd : Int} (hc : 0 ≤ cmd ∧ cmd ≤ 255) (hs : ∀ o, lkt B.owns k = some o → 0 ≤ o.k.s ∧ o.k.s ≤ 255) (hh : ∀ h, lkt B.helds k = some h → 0 ≤ h.k.s ∧ h.k.s ≤ 255) :
    CallOK Try.prog UseF [.ptr 0 0 0, .agg (kidS k), .val (.int .u8 cmd)] [] (bkH F B) (.tup [.raw 1 0, eN (useQ B k cmd).e]) (bkH F (useQ B k cmd).b ++ [((1, 0), outsR (useQ B k cmd).out)]) := by
  have c0 := self_w F B
  rcases Bool.eq_false_or_eq_true (useB cmd) with eu | eu
  · have c5 := bown_w F B hk hc hs
    have c1 := held_w F B hk
    rcases Bool.eq_false_or_eq_true (decide (k.t.c = B.self)) with e0 | e0
    · unfold useQ
      simp only [eu, e0]
      clear hh c1
      rcases use_yes eu with rfl | rfl | rfl | rfl <;> exact callOK_run 400 [hC 5 4 c0, hB 5 5 _ _ e0, hC 6 3 c5] (by kernel_rfl) (by kernel_rfl)
    · unfold useQ
      simp only [eu, e0]
      clear c5 hs
      unfold useHeld
      cases hl : lkt B.helds k with
      | none =>
        rw [hl] at c1
        rcases use_yes eu with rfl | rfl | rfl | rfl <;> exact callOK_run 400 [hC 5 4 c0, hB 5 5 _ _ e0, hC 7 2 c1] (by kernel_rfl) (by kernel_rfl)
      | some h =>
        rw [hl] at c1
        have c3 := next_w (hh h hl) hc
        have c2 := setHeld_w F B hk (usedH h (nextI h.k.s cmd).1)
        have c6 := btell_w k.t.c ⟨6, k, cpn0, h.k.v, 0⟩
        simp only [Option.getD_some]
        rcases Bool.eq_false_or_eq_true h.here with e1 | e1
        · rcases Bool.eq_false_or_eq_true (decide ((nextI h.k.s cmd).2 = 0)) with e3 | e3
          · have e3' : (!decide ((nextI h.k.s cmd).2 = 0)) = false := by rw [e3]; rfl
            unfold usedH at c2 ⊢
            rcases Bool.eq_false_or_eq_true (decide ((nextI h.k.s cmd).1 = 4)) with e5 | e5
            · simp only [e1, e3, e5, Bool.or_true] at c2 ⊢
              rcases use_yes eu with rfl | rfl | rfl | rfl <;> exact callOK_run 400 [hC 5 4 c0, hB 5 5 _ _ e0, hC 7 2 c1, hB 10 1 _ _ e1, hC 12 4 c3, hB 13 1 _ _ e3', hB 16 3 _ _ e5, hC 18 8 c6, hC 19 3 c2] (by kernel_rfl) (by kernel_rfl)
            · simp only [e1, e3, e5, Bool.or_false] at c2 ⊢
              rcases use_yes eu with rfl | rfl | rfl | rfl <;> exact callOK_run 400 [hC 5 4 c0, hB 5 5 _ _ e0, hC 7 2 c1, hB 10 1 _ _ e1, hC 12 4 c3, hB 13 1 _ _ e3', hB 16 3 _ _ e5, hC 19 3 c2] (by kernel_rfl) (by kernel_rfl)
          · have e3' : (!decide ((nextI h.k.s cmd).2 = 0)) = true := by rw [e3]; rfl
            simp only [e1, e3]
            rcases use_yes eu with rfl | rfl | rfl | rfl <;> exact callOK_run 400 [hC 5 4 c0, hB 5 5 _ _ e0, hC 7 2 c1, hB 10 1 _ _ e1, hC 12 4 c3, hB 13 1 _ _ e3'] (by kernel_rfl) (by kernel_rfl)
        · simp only [e1]
          rcases use_yes eu with rfl | rfl | rfl | rfl <;> exact callOK_run 400 [hC 5 4 c0, hB 5 5 _ _ e0, hC 7 2 c1, hB 10 1 _ _ e1] (by kernel_rfl) (by kernel_rfl)
  · obtain ⟨u1, u2, u3, u4⟩ := use_no eu
    have v1 : (!decide (cmd = 9)) = true := by rw [u1]; rfl
    have v2 : (!decide (cmd = 10)) = true := by rw [u2]; rfl
    have v3 : (!decide (cmd = 11)) = true := by rw [u3]; rfl
    have v4 : (!decide (cmd = 12)) = true := by rw [u4]; rfl
    unfold useQ
    simp only [eu]
    exact callOK_run 400 [hB 3 1 _ _ v1, hB 3 4 _ _ v2, hB 3 8 _ _ v3, hB 3 12 _ _ v4] (by kernel_rfl) (by kernel_rfl)
/-! ### Bill -/
def MCheckF : Nat := 33
theorem mcheck_w (a : Int) : CallOK Try.prog MCheckF [.val (.int .i64 a)] [] [] (eN (errI a)) [] := callOK_pure fun ε w => check_any a w
def billedH (h : HeldV) : HeldV := { h with billed := true }
def billQ (B : BookV) (k : Kid) (amt : Int) : HR :=
  let h := (lkt B.helds k).getD held0
  bif !(lkt B.helds k).isSome then ⟨[], 4, B⟩
  else bif !h.here then ⟨[], 160, B⟩
  else bif !decide (h.k.s = 4) || (h.paid || h.billed) then ⟨[], 6, B⟩
  else bif !mayI amt then ⟨[], 7, B⟩
  else ⟨[billO k amt], 0, B.setH k (billedH h)⟩
def BillF : Nat := 9
theorem bill_w (F : CF) (B : BookV) {k : Kid} (hk : KidOk k) (amt : Int) : CallOK Try.prog BillF [.ptr 0 0 0, .agg (kidS k), .val (.int .i64 amt)] [] (bkH F B) (.tup [.raw 1 0, eN (billQ B k amt).e]) (bkH F (billQ B k amt).b ++ [((1, 0), outsR (billQ B k amt).out)]) := by
  have c1 := held_w F B hk
  have c4 := mcheck_w amt
  unfold billQ
  cases hl : lkt B.helds k with
  | none =>
    rw [hl] at c1
    exact callOK_run 400 [hC 1 2 c1] (by kernel_rfl) (by kernel_rfl)
  | some h =>
    rw [hl] at c1
    have c2 := setHeld_w F B hk (billedH h)
    have c6 := btell_w k.t.c ⟨6, k, cpn0, amt, 0⟩
    simp only [Option.getD_some]
    rcases Bool.eq_false_or_eq_true h.here with e1 | e1
    · rcases Bool.eq_false_or_eq_true (decide (h.k.s = 4)) with e2 | e2
      · have e2' : (!decide (h.k.s = 4)) = false := by rw [e2]; rfl
        rcases Bool.eq_false_or_eq_true h.paid with e3 | e3
        · simp only [e1, e2, e3]; exact callOK_run 400 [hC 1 2 c1, hB 4 1 _ _ e1, hB 6 3 _ _ e2', hB 6 6 _ _ e3] (by kernel_rfl) (by kernel_rfl)
        rcases Bool.eq_false_or_eq_true h.billed with e4 | e4
        · simp only [e1, e2, e3, e4]; exact callOK_run 400 [hC 1 2 c1, hB 4 1 _ _ e1, hB 6 3 _ _ e2', hB 6 6 _ _ e3, hB 6 10 _ _ e4] (by kernel_rfl) (by kernel_rfl)
        rcases Bool.eq_false_or_eq_true (mayI amt) with e5 | e5 <;> simp only [errI, e1, e2, e3, e4, e5] at c4 ⊢ <;> exact callOK_run 400 [hC 1 2 c1, hB 4 1 _ _ e1, hB 6 3 _ _ e2', hB 6 6 _ _ e3, hB 6 10 _ _ e4, hC 8 1 c4, hC 11 3 c2, hC 12 6 c6] (by kernel_rfl) (by kernel_rfl)
      · have e2' : (!decide (h.k.s = 4)) = true := by rw [e2]; rfl
        simp only [e1, e2]; exact callOK_run 400 [hC 1 2 c1, hB 4 1 _ _ e1, hB 6 3 _ _ e2'] (by kernel_rfl) (by kernel_rfl)
    · simp only [e1]; exact callOK_run 400 [hC 1 2 c1, hB 4 1 _ _ e1] (by kernel_rfl) (by kernel_rfl)
end Go.Proofs.Ytlamaakconjkcaa
end
