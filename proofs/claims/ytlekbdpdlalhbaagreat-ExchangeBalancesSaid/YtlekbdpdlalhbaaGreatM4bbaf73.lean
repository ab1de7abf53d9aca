/- Lw16b, HoP1, Lw16c, Lw16d, Lw16e, HoP2, HoP3, HoP4, PostPlain, BoxLoad, PostAct, Lw16f, Lw16n, Ex8, Vals, Ex9. -/
import Derived.Test.YtlekbdpdlalhbaaGreatMfbbbe2a
import Derived.Test.YtlekbdpdlalhbaaGreatM03a5973
import Derived.Shelf.SlicesQ.Load
import Derived.Test.YtlekbdpdlalhbaaGreatRows
import Derived.Test.YtlekbdpdlalhbaaGreatMd504429
import Derived.Test.YtlekbdpdlalhbaaGreatMfb15bf8
section
namespace Go.Proofs.YtlekbdpdlalhbaaGreat
set_option maxRecDepth 100000
open Go.RowKit Go.Lib Go.Tk Go.Shelf Go.Vc Go.Sx
set_option linter.unusedVariables false
set_option linter.unusedSimpArgs false

end Go.Proofs.YtlekbdpdlalhbaaGreat
end
section
namespace Go.Proofs.YtlekbdpdlalhbaaGreat
set_option maxRecDepth 100000
open Go.RowKit Go.Lib Go.Tk Go.Shelf Go.Vc Go.Sx
set_option linter.unusedVariables false
set_option linter.unusedSimpArgs false

structure HSt where
  a : BookV
  b : BookV
  down : List MsV
  up : List MsV
def tA : Tid := ⟨0, 1⟩
def keyA (i : Int) : Kid := ⟨tA, i⟩
/-- how many messages of a kind say something of a coupon -/
def nM (kind : Int) (k : Kid) : List MsV → Nat
  | [] => 0
  | m :: l => (if m.kind = kind ∧ m.key = k then 1 else 0) + nM kind k l
def keysA : List Kid := [keyA 0, keyA 1, keyA 2, keyA 3]
end Go.Proofs.YtlekbdpdlalhbaaGreat
end
section
namespace Go.Proofs.YtlekbdpdlalhbaaGreat
set_option maxRecDepth 100000
open Go.RowKit Go.Lib Go.Tk Go.Shelf Go.Vc Go.Sx
set_option linter.unusedVariables false
set_option linter.unusedSimpArgs false

end Go.Proofs.YtlekbdpdlalhbaaGreat
end
section
namespace Go.Proofs.YtlekbdpdlalhbaaGreat
set_option maxRecDepth 100000
open Go.RowKit Go.Lib Go.Tk Go.Shelf Go.Vc Go.Sx
set_option linter.unusedVariables false
set_option linter.unusedSimpArgs false

end Go.Proofs.YtlekbdpdlalhbaaGreat
end
section
namespace Go.Proofs.YtlekbdpdlalhbaaGreat
set_option maxRecDepth 100000
open Go.RowKit Go.Lib Go.Tk Go.Shelf Go.Vc Go.Sx
set_option linter.unusedVariables false
set_option linter.unusedSimpArgs false

end Go.Proofs.YtlekbdpdlalhbaaGreat
end
section
namespace Go.Proofs.YtlekbdpdlalhbaaGreat
set_option maxRecDepth 100000
open Go.RowKit Go.Lib Go.Tk Go.Shelf Go.Vc Go.Sx
set_option linter.unusedVariables false
set_option linter.unusedSimpArgs false

structure OneP (o : OwnV) (x : HeldV) (k : Kid) (D U : List MsV) : Prop where
  stay : o.away = false → nM 2 k D = 0 ∧ nM 5 k U = 0 ∧ x.here = false
  gone : o.away = true → o.dst = 1 ∧ nM 2 k D + nM 5 k U + (if x.here = true then 1 else 0) = 1
  dn : ∀ m ∈ D, m.kind = 2 → m.key = k → m.k.n = o.k.n
  upn : ∀ m ∈ U, m.kind = 5 → m.key = k → m.k.n = o.k.n
  hn : x.here = true → x.k.n = o.k.n
  le : x.k.n ≤ o.k.n
  lt : 0 < nM 2 k D → x.k.n < o.k.n
  lo : 0 ≤ o.k.n
  hi : o.k.n ≤ 4294967295
theorem nM_drop1 (kind : Int) (k : Kid) (l : List MsV) {m : MsV} (hm : m.kind = kind ∧ m.key = k) : nM kind k (m :: l) = nM kind k l + 1 := by
  show (if _ then 1 else 0) + _ = _; rw [if_pos hm]; omega
section
variable {o : OwnV} {x : HeldV} {k : Kid} {D U : List MsV} {m : MsV}
theorem OneP.own {o' : OwnV} (h : OneP o x k D U) (h1 : o'.away = o.away) (h2 : o'.dst = o.dst) (h3 : o'.k = o.k) : OneP o' x k D U :=
  ⟨by rw [h1]; exact h.stay, by rw [h1, h2]; exact h.gone, by rw [h3]; exact h.dn, by rw [h3]; exact h.upn, by rw [h3]; exact h.hn, by rw [h3]; exact h.le, by rw [h3]; exact h.lt, by rw [h3]; exact h.lo, by rw [h3]; exact h.hi⟩
theorem OneP.held {x' : HeldV} (h : OneP o x k D U) (h1 : x'.here = x.here) (h2 : x'.k = x.k) : OneP o x' k D U :=
  ⟨by rw [h1]; exact h.stay, by rw [h1]; exact h.gone, h.dn, h.upn, by rw [h1, h2]; exact h.hn, by rw [h2]; exact h.le, by rw [h2]; exact h.lt, h.lo, h.hi⟩
theorem OneP.away_of (h : OneP o x k D U) (h1 : x.here = true ∨ 0 < nM 2 k D ∨ 0 < nM 5 k U) : o.away = true := by
  rcases Bool.eq_false_or_eq_true o.away with e | e
  · exact e
  · have := h.stay e
    rcases h1 with h1 | h1 | h1
    · rw [this.2.2] at h1; cases h1
    · omega
    · omega
theorem OneP.back (h : OneP o x k D (m :: U)) (h1 : m.kind = 5) (h2 : m.key = k) : o.away = true ∧ o.dst = 1 ∧ o.k.n = m.k.n ∧ OneP (backO o) x k D U := by
  have hz := nM_drop1 5 k U (m := m) ⟨h1, h2⟩
  have hn := h.upn m List.mem_cons_self h1 h2
  have hp : 0 < nM 5 k (m :: U) := by omega
  have ha := h.away_of (.inr (.inr hp))
  have hg := h.gone ha
  rw [hz] at hg
  have hf : x.here = false := by
    rcases Bool.eq_false_or_eq_true x.here with e | e
    · rw [if_pos e] at hg; omega
    · exact e
  exact ⟨ha, hg.1, hn.symm, ⟨fun _ => ⟨by omega, by omega, hf⟩, (fun e => by cases e), h.dn, fun m' hm' e1 e2 => h.upn m' (List.mem_cons_of_mem _ hm') e1 e2, h.hn, h.le, h.lt, h.lo, h.hi⟩⟩
end
structure InvP (σ : HSt) : Prop where
  one : ∀ k ∈ keysA, ∃ o, lkt σ.a.owns k = some o ∧ OneP o ((lkt σ.b.helds k).getD held0) k σ.down σ.up
  sa : σ.a.self = 0
  na : σ.a.n = 2
  sb : σ.b.self = 1
  nb : σ.b.n = 2
  ow : ∀ k, (lkt σ.a.owns k).isSome = true → k ∈ keysA
  ob : σ.b.owns = []
  ha : σ.a.helds = []
  he : ∀ k, (lkt σ.b.helds k).isSome = true → k ∈ keysA
  nd : (σ.b.helds.map (·.1)).Nodup
  dk : ∀ m ∈ σ.down, m.key ∈ keysA ∧ (m.kind = 2 ∨ m.kind = 3 ∨ m.kind = 4)
  uk : ∀ m ∈ σ.up, m.key ∈ keysA ∧ (m.kind = 1 ∨ m.kind = 3 ∨ m.kind = 5)
theorem len_sub {α : Type} [DecidableEq α] : ∀ (l r : List α), l.Nodup → (∀ a ∈ l, a ∈ r) → l.length ≤ r.length
  | [], r, _, _ => Nat.zero_le _
  | a :: l, r, hn, hs => by
    rw [List.nodup_cons] at hn
    have hm := hs a List.mem_cons_self
    have := len_sub l (r.erase a) hn.2 (fun b hb => by
      have hne : b ≠ a := fun e => hn.1 (e ▸ hb)
      exact (List.mem_erase_of_ne hne).2 (hs b (List.mem_cons_of_mem _ hb)))
    rw [List.length_erase_of_mem hm] at this
    have hp : 0 < r.length := List.length_pos_of_mem hm
    simp only [List.length_cons]; omega
theorem keys_at {k : Kid} (h : k ∈ keysA) : ∃ i : Int, k = keyA i ∧ 0 ≤ i ∧ i ≤ 3 := by
  simp only [keysA, List.mem_cons, List.not_mem_nil, or_false] at h
  rcases h with rfl | rfl | rfl | rfl
  · exact ⟨0, rfl, by decide, by decide⟩
  · exact ⟨1, rfl, by decide, by decide⟩
  · exact ⟨2, rfl, by decide, by decide⟩
  · exact ⟨3, rfl, by decide, by decide⟩
theorem InvP.setHE {σ : HSt} (h : InvP σ) {k : Kid} (hk : k ∈ keysA) : σ.b.setHE k = 0 := by
  obtain ⟨i, rfl, h0, h1⟩ := keys_at hk
  have hb : σ.b.badK (keyA i) = false := by
    unfold BookV.badK
    rw [h.sb, h.nb]
    show (decide ((0 : Int) = 1) || (decide ((2 : Int) ≤ 0) || (decide ((1 : Int) < 1) || (decide ((9999999999 : Int) < 1) || decide (4 ≤ i))))) = false
    rw [decide_eq_false (show ¬ 4 ≤ i by omega)]; rfl
  have hl := len_sub _ keysA h.nd (fun a ha => h.he a (by
    cases e : lkt σ.b.helds a with
    | none => exact absurd ha (lkt_none.1 e)
    | some _ => rfl))
  rw [List.length_map] at hl
  have hl : σ.b.helds.length ≤ 4 := hl
  unfold BookV.setHE
  rw [hb, decide_eq_false (show ¬ 64 ≤ σ.b.helds.length by omega), Bool.and_false]; rfl
theorem InvP.setH {σ : HSt} (h : InvP σ) {k : Kid} (hk : k ∈ keysA) (x : HeldV) : σ.b.setH k x = { σ.b with helds := putt σ.b.helds k x } := by
  unfold BookV.setH; rw [h.setHE hk]; rfl
section
variable {A B : BookV} {D U D' U' : List MsV} {k : Kid}
end
end Go.Proofs.YtlekbdpdlalhbaaGreat
end
section
namespace Go.Proofs.YtlekbdpdlalhbaaGreat
set_option maxRecDepth 100000
open Go.RowKit Go.Lib Go.Tk Go.Shelf Go.Vc Go.Sx
set_option linter.unusedVariables false
set_option linter.unusedSimpArgs false

section
variable {A B : BookV} {D U : List MsV}
end
end Go.Proofs.YtlekbdpdlalhbaaGreat
end
section
namespace Go.Proofs.YtlekbdpdlalhbaaGreat
set_option maxRecDepth 100000
open Go.RowKit Go.Lib Go.Tk Go.Shelf Go.Vc Go.Sx
set_option linter.unusedVariables false
set_option linter.unusedSimpArgs false

end Go.Proofs.YtlekbdpdlalhbaaGreat
end
section
namespace Go.Proofs.YtlekbdpdlalhbaaGreat
open Go.RowKit Go.Lib Go.Tk

structure Msg where
  k : Int
  tc : Int
  tr : Int
  ix : Int
  lc : Int
  lf : Int
  lx : Int
  v : Int
  st : Int
  nn : Int
  amt : Int
  cd : Int
deriving DecidableEq, Inhabited
structure BoxV where
  wait : List Msg
  given : Int
  last : Int
structure PostV where
  self : Int
  n : Int
  box : Nat → BoxV
def PostV.other (P : PostV) (c : Int) : Bool := decide (0 ≤ c) && decide (c < P.n) && !decide (c = P.self)
def PostV.put (P : PostV) (c : Nat) (X : BoxV) : PostV := { P with box := fun i => if i = c then X else P.box i }
/-- the carriers that have a box -/
def PostV.cs (P : PostV) : List Nat := (List.range P.n.toNat).filter fun c => P.other c
end Go.Proofs.YtlekbdpdlalhbaaGreat
end
section
namespace Go.Proofs.YtlekbdpdlalhbaaGreat
open Go.RowKit Go.Lib Go.Tk Go.Shelf

end Go.Proofs.YtlekbdpdlalhbaaGreat
end
section
namespace Go.Proofs.YtlekbdpdlalhbaaGreat
open Go.RowKit Go.Lib Go.Tk Go.WideShapes

variable {H : Type} {enc : TypeId × Value → H} {w : World} {base : Nat} {spare : Nat → Bool} {held : Bool}

end Go.Proofs.YtlekbdpdlalhbaaGreat
end
section
namespace Go.Proofs.YtlekbdpdlalhbaaGreat
set_option maxRecDepth 100000
open Go.RowKit Go.Lib Go.Tk Go.Shelf Go.Vc Go.Sx Go.WideShapes
set_option linter.unusedVariables false
set_option linter.unusedSimpArgs false

section
variable {H : Type} {enc : TypeId × Value → H} {w : World} {base : Nat} {spare : Nat → Bool} {held : Bool}
end
end Go.Proofs.YtlekbdpdlalhbaaGreat
end
section
namespace Go.Proofs.YtlekbdpdlalhbaaGreat
set_option maxRecDepth 100000
open Go.RowKit Go.Lib Go.Tk Go.Shelf Go.Vc Go.Sx
set_option linter.unusedVariables false
set_option linter.unusedSimpArgs false

end Go.Proofs.YtlekbdpdlalhbaaGreat
end
section
namespace Go.Proofs.YtlekbdpdlalhbaaGreat
set_option maxRecDepth 100000
open Go.RowKit Go.Lib Go.Tk Go.Shelf Go.Vc Go.Sx
set_option linter.unusedVariables false
set_option linter.unusedSimpArgs false

/-! ### no book -/
/-! ### tickets that are known -/
def sale17 (fare : Int) : SaleV := ⟨⟨#[68, 79, 69, 47, 74]⟩, [⟨1, 0, 1⟩, ⟨0, 0, 1⟩], fare, [], 20⟩
theorem sale17_ok {fare : Int} (h : 0 ≤ fare ∧ fare ≤ 1000) : SaleOk (sale17 fare) where
  name := by unfold maxLen; show (5 : Nat) ≤ _; decide
  legs := by intro l hl; simp [sale17] at hl; rcases hl with rfl | rfl <;> (unfold LegOk; decide)
  taxes := by intro t ht; cases ht
  fare := ⟨by show _ ≤ fare; omega, by show fare ≤ _; omega⟩
  pen := by show _ ≤ (20 : Int) ∧ (20 : Int) ≤ _; decide
  nl := by show (2 : Nat) ≤ _; decide
  nt := by show (0 : Nat) ≤ _; decide
def Known17F : Nat := 110
theorem known17_w (fare : Int) : CallOK Tryz.prog Known17F [.val (.int .i64 fare)] [] [] (.agg (salS (sale17 fare) (.raw 1 0) nilS)) [((1, 0), legD 2 (sale17 fare).legs)] := callOK_run 400 [] (by kernel_rfl) (by kernel_rfl)
theorem exIssue_D {B : BookV} (hb : BookOk B) {s : SaleV} (ok : SaleOk s) : CallOK Tryz.prog ExIssueF [.ptr 0 0 0, .agg (salS s (.raw 0 10) (.raw 0 11))] [((0, 10), legD s.legs.length s.legs), ((0, 11), taxD s.taxes.length s.taxes)] (bkC B) (xrV (exIssue B s)) (xrP (exIssue B s)) :=
  raw2 (args := fun x y => [.ptr 0 0 0, .agg (salS s x y)]) (issue_args s) (fun F A hl ht h1 h2 => exIssue_F F hb ok hl ht h1 h2) rfl rfl rfl
theorem exchange_D {B : BookV} (h : ExOk B) {t : Tid} (ht : TidOk t) {s : SaleV} (ok : SaleOk s) : CallOK Tryz.prog ExchangeF [.ptr 0 0 0, .agg (tidS t), .agg (salS s (.raw 0 10) (.raw 0 11))] [((0, 10), legD s.legs.length s.legs), ((0, 11), taxD s.taxes.length s.taxes)] (bkC B) (xrV (exExchange B t s)) (xrP (exExchange B t s)) :=
  raw2 (args := fun x y => [.ptr 0 0 0, .agg (tidS t), .agg (salS s x y)]) (fun ε ε' x y x' y' h1 h2 h3 => by simp only [SV.dens, SV.den, salS, tidS, h1, h2, h3 0 0 rfl]) (fun F A hl hta h1 h2 => exchange_F F h ht ok hl hta h1 h2) rfl rfl rfl
end Go.Proofs.YtlekbdpdlalhbaaGreat
end
section
namespace Go.Proofs.YtlekbdpdlalhbaaGreat
set_option maxRecDepth 100000
open Go.RowKit Go.Lib Go.Tk Go.Sort Go.Shelf

theorem sort_a : sortL (restsL 101 2 [1, 1]) = [(1, 0), (1, 1)] := by
  refine (sortL_unique ?_ ?_).symm
  · decide
  · decide
theorem share_a : shareV 101 [1, 1] = [51, 50] := by
  have e : shareE 101 [1, 1] = 0 := by decide
  unfold shareV
  rw [if_pos e]
  unfold shareL chosen
  have hs : ([1, 1] : List Int).sum = 2 := by decide
  rw [hs, sort_a]
  decide
theorem sort_b : sortL (restsL 50 2 [1, 1]) = [(0, 0), (0, 1)] := by
  refine (sortL_unique ?_ ?_).symm
  · decide
  · decide
theorem share_b : shareV 50 [1, 1] = [25, 25] := by
  have e : shareE 50 [1, 1] = 0 := by decide
  unfold shareV
  rw [if_pos e]
  unfold shareL chosen
  have hs : ([1, 1] : List Int).sum = 2 := by decide
  rw [hs, sort_b]
  decide
end Go.Proofs.YtlekbdpdlalhbaaGreat
end
section
namespace Go.Proofs.YtlekbdpdlalhbaaGreat
set_option maxRecDepth 100000
open Go.RowKit Go.Lib Go.Tk Go.Shelf Go.Vc Go.Sx
set_option linter.unusedVariables false
set_option linter.unusedSimpArgs false

def t11 : Tid := ⟨1, 1⟩
def t12 : Tid := ⟨1, 2⟩
def d17 : DocV := ⟨t11, sale17 101, [51, 50], ⟨0, 0⟩, ⟨0, 0⟩, 0, 101, 0, 0, 0⟩
def C17a : BookV := ⟨1, 3, [d17], [(⟨t11, 0⟩, ownNew ⟨1, 0, 1⟩ 51), (⟨t11, 1⟩, ownNew ⟨0, 0, 1⟩ 50)], []⟩
def C17b : BookV := ⟨1, 3, [d17, ⟨t12, sale17 50, [25, 25], ⟨0, 0⟩, ⟨0, 0⟩, 0, 50, 0, 0, 0⟩], [(⟨t11, 0⟩, ownNew ⟨1, 0, 1⟩ 51), (⟨t11, 1⟩, ownNew ⟨0, 0, 1⟩ 50), (⟨t12, 0⟩, ownNew ⟨1, 0, 1⟩ 25), (⟨t12, 1⟩, ownNew ⟨0, 0, 1⟩ 25)], []⟩
theorem share17a : shareV (sale17 101).fare (wsOf (sale17 101)) = [51, 50] := share_a
theorem share17b : shareV (sale17 50).fare (wsOf (sale17 50)) = [25, 25] := share_b
theorem iss17a : (bookNew 1 3).issued (sale17 101) = C17a := by unfold BookV.issued docMade; rw [share17a]; rfl
theorem iss17b : C17a.issued (sale17 50) = C17b := by unfold BookV.issued docMade; rw [share17b]; rfl
def C17c : BookV := (turnB (C17b.setD (exD1 C17a d17 (sale17 50))) t11 7).setD (exD2 C17a d17 (sale17 50))
theorem ex17a : exIssue (bookNew 1 3) (sale17 101) = ⟨0, t11, 101, [1, 1], C17a⟩ := by
  unfold exIssue
  rw [show decide ((bookNew 1 3).issE (sale17 101) = 0) = true by kernel_rfl]
  show toldX ((bookNew 1 3).issued (sale17 101)) (bookNew 1 3).nextT (priceI (sale17 101)) = _
  rw [iss17a]; kernel_rfl
theorem ex17b : exExchange C17a t11 (sale17 50) = ⟨0, t12, 0, [1, 1], C17c⟩ := by
  show exExchangeD C17a d17 (sale17 50) = _
  unfold exExchangeD exB2
  rw [iss17b]; kernel_rfl
theorem ex17c : exDisplay C17c t12 = ⟨0, t12, 11, [1, 1], C17c⟩ := by kernel_rfl
theorem ex17d : exRefund C17c t11 = ⟨6, tid0, 0, [], C17c⟩ := by kernel_rfl
def WakesF17 : Nat := 41
theorem wakes17_w : CallOK Tryz.prog WakesF17 [] [] [] (.val (.bool true)) [] := by
  have n1 := new_okC (self := 1) (n := 3) (by decide) (by decide)
  have k1 := known17_w 101
  have k2 := known17_w 50
  have i1 := exIssue_D (book_new_ok 1 3 (by decide)) (sale17_ok (fare := 101) (by decide))
  have h1 := exIssue_ok (new_ex 1 3 (by decide)) (sale17_ok (fare := 101) (by decide))
  rw [ex17a] at i1 h1
  have x2 := exchange_D (B := C17a) h1 (t := t11) ⟨by decide, by decide⟩ (sale17_ok (fare := 50) (by decide))
  have h2 := exExchange_ok (B := C17a) h1 t11 (sale17_ok (fare := 50) (by decide))
  rw [ex17b] at x2 h2
  have d3 := display_w (B := C17c) h2 (t := t12) ⟨by decide, by decide⟩
  rw [ex17c] at d3
  have r4 := refund_w (B := C17c) h2 (t := t11) ⟨by decide, by decide⟩
  rw [ex17d] at r4
  exact callOK_run 900 [hC 1 0 n1, hC 4 1 k1, hC 4 2 i1, hC 5 3 k2, hC 5 4 x2, hC 6 3 d3, hC 7 3 r4] (by kernel_rfl) (by kernel_rfl)
end Go.Proofs.YtlekbdpdlalhbaaGreat
end
