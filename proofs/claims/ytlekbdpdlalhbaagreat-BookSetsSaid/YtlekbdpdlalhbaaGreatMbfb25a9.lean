/- Lw16b, HoP1, Lw16c, Lw16d, Lw16e, HoP2, HoP3, HoP4, PostPlain, BoxLoad, PostAct, Lw16f, Lw16n, Ex8, Vals, Ex9, EbW4. -/
import Derived.Test.YtlekbdpdlalhbaaGreatM967e4a0
import Derived.Test.YtlekbdpdlalhbaaGreatM03a5973
import Derived.Shelf.SlicesQ.Load
import Derived.Test.YtlekbdpdlalhbaaGreatRows
import Derived.Test.YtlekbdpdlalhbaaGreatM4f78b84
import Derived.Test.YtlekbdpdlalhbaaGreatMfb15bf8
import Derived.Test.YtlekbdpdlalhbaaGreatMa7d1acb
section
namespace Go.Proofs.YtlekbdpdlalhbaaGreat
set_option maxRecDepth 100000
open Go.RowKit Go.Lib Go.Tk Go.Shelf Go.Vc Go.Sx
set_option linter.unusedVariables false
set_option linter.unusedSimpArgs false

end Go.Proofs.YtlekbdpdlalhbaaGreat
end
section
namespace Go.Proofs.YtlekbdpdlalhbaaGreat
set_option maxRecDepth 100000
open Go.RowKit Go.Lib Go.Tk Go.Shelf Go.Vc Go.Sx
set_option linter.unusedVariables false
set_option linter.unusedSimpArgs false

structure HSt where
  a : BookV
  b : BookV
  down : List MsV
  up : List MsV
def tA : Tid := ⟨0, 1⟩
def keyA (i : Int) : Kid := ⟨tA, i⟩
/-- how many messages of a kind say something of a coupon -/
def nM (kind : Int) (k : Kid) : List MsV → Nat
  | [] => 0
  | m :: l => (if m.kind = kind ∧ m.key = k then 1 else 0) + nM kind k l
def keysA : List Kid := [keyA 0, keyA 1, keyA 2, keyA 3]
end Go.Proofs.YtlekbdpdlalhbaaGreat
end
section
namespace Go.Proofs.YtlekbdpdlalhbaaGreat
set_option maxRecDepth 100000
open Go.RowKit Go.Lib Go.Tk Go.Shelf Go.Vc Go.Sx
set_option linter.unusedVariables false
set_option linter.unusedSimpArgs false

end Go.Proofs.YtlekbdpdlalhbaaGreat
end
section
namespace Go.Proofs.YtlekbdpdlalhbaaGreat
set_option maxRecDepth 100000
open Go.RowKit Go.Lib Go.Tk Go.Shelf Go.Vc Go.Sx
set_option linter.unusedVariables false
set_option linter.unusedSimpArgs false

end Go.Proofs.YtlekbdpdlalhbaaGreat
end
section
namespace Go.Proofs.YtlekbdpdlalhbaaGreat
set_option maxRecDepth 100000
open Go.RowKit Go.Lib Go.Tk Go.Shelf Go.Vc Go.Sx
set_option linter.unusedVariables false
set_option linter.unusedSimpArgs false

end Go.Proofs.YtlekbdpdlalhbaaGreat
end
section
namespace Go.Proofs.YtlekbdpdlalhbaaGreat
set_option maxRecDepth 100000
open Go.RowKit Go.Lib Go.Tk Go.Shelf Go.Vc Go.Sx
set_option linter.unusedVariables false
set_option linter.unusedSimpArgs false

structure OneP (o : OwnV) (x : HeldV) (k : Kid) (D U : List MsV) : Prop where
  stay : o.away = false → nM 2 k D = 0 ∧ nM 5 k U = 0 ∧ x.here = false
  gone : o.away = true → o.dst = 1 ∧ nM 2 k D + nM 5 k U + (if x.here = true then 1 else 0) = 1
  dn : ∀ m ∈ D, m.kind = 2 → m.key = k → m.k.n = o.k.n
  upn : ∀ m ∈ U, m.kind = 5 → m.key = k → m.k.n = o.k.n
  hn : x.here = true → x.k.n = o.k.n
  le : x.k.n ≤ o.k.n
  lt : 0 < nM 2 k D → x.k.n < o.k.n
  lo : 0 ≤ o.k.n
  hi : o.k.n ≤ 4294967295
theorem nM_drop1 (kind : Int) (k : Kid) (l : List MsV) {m : MsV} (hm : m.kind = kind ∧ m.key = k) : nM kind k (m :: l) = nM kind k l + 1 := by
  show (if _ then 1 else 0) + _ = _; rw [if_pos hm]; omega
section
variable {o : OwnV} {x : HeldV} {k : Kid} {D U : List MsV} {m : MsV}
theorem OneP.own {o' : OwnV} (h : OneP o x k D U) (h1 : o'.away = o.away) (h2 : o'.dst = o.dst) (h3 : o'.k = o.k) : OneP o' x k D U :=
  ⟨by rw [h1]; exact h.stay, by rw [h1, h2]; exact h.gone, by rw [h3]; exact h.dn, by rw [h3]; exact h.upn, by rw [h3]; exact h.hn, by rw [h3]; exact h.le, by rw [h3]; exact h.lt, by rw [h3]; exact h.lo, by rw [h3]; exact h.hi⟩
theorem OneP.held {x' : HeldV} (h : OneP o x k D U) (h1 : x'.here = x.here) (h2 : x'.k = x.k) : OneP o x' k D U :=
  ⟨by rw [h1]; exact h.stay, by rw [h1]; exact h.gone, h.dn, h.upn, by rw [h1, h2]; exact h.hn, by rw [h2]; exact h.le, by rw [h2]; exact h.lt, h.lo, h.hi⟩
theorem OneP.away_of (h : OneP o x k D U) (h1 : x.here = true ∨ 0 < nM 2 k D ∨ 0 < nM 5 k U) : o.away = true := by
  rcases Bool.eq_false_or_eq_true o.away with e | e
  · exact e
  · have := h.stay e
    rcases h1 with h1 | h1 | h1
    · rw [this.2.2] at h1; cases h1
    · omega
    · omega
theorem OneP.back (h : OneP o x k D (m :: U)) (h1 : m.kind = 5) (h2 : m.key = k) : o.away = true ∧ o.dst = 1 ∧ o.k.n = m.k.n ∧ OneP (backO o) x k D U := by
  have hz := nM_drop1 5 k U (m := m) ⟨h1, h2⟩
  have hn := h.upn m List.mem_cons_self h1 h2
  have hp : 0 < nM 5 k (m :: U) := by omega
  have ha := h.away_of (.inr (.inr hp))
  have hg := h.gone ha
  rw [hz] at hg
  have hf : x.here = false := by
    rcases Bool.eq_false_or_eq_true x.here with e | e
    · rw [if_pos e] at hg; omega
    · exact e
  exact ⟨ha, hg.1, hn.symm, ⟨fun _ => ⟨by omega, by omega, hf⟩, (fun e => by cases e), h.dn, fun m' hm' e1 e2 => h.upn m' (List.mem_cons_of_mem _ hm') e1 e2, h.hn, h.le, h.lt, h.lo, h.hi⟩⟩
end
structure InvP (σ : HSt) : Prop where
  one : ∀ k ∈ keysA, ∃ o, lkt σ.a.owns k = some o ∧ OneP o ((lkt σ.b.helds k).getD held0) k σ.down σ.up
  sa : σ.a.self = 0
  na : σ.a.n = 2
  sb : σ.b.self = 1
  nb : σ.b.n = 2
  ow : ∀ k, (lkt σ.a.owns k).isSome = true → k ∈ keysA
  ob : σ.b.owns = []
  ha : σ.a.helds = []
  he : ∀ k, (lkt σ.b.helds k).isSome = true → k ∈ keysA
  nd : (σ.b.helds.map (·.1)).Nodup
  dk : ∀ m ∈ σ.down, m.key ∈ keysA ∧ (m.kind = 2 ∨ m.kind = 3 ∨ m.kind = 4)
  uk : ∀ m ∈ σ.up, m.key ∈ keysA ∧ (m.kind = 1 ∨ m.kind = 3 ∨ m.kind = 5)
theorem len_sub {α : Type} [DecidableEq α] : ∀ (l r : List α), l.Nodup → (∀ a ∈ l, a ∈ r) → l.length ≤ r.length
  | [], r, _, _ => Nat.zero_le _
  | a :: l, r, hn, hs => by
    rw [List.nodup_cons] at hn
    have hm := hs a List.mem_cons_self
    have := len_sub l (r.erase a) hn.2 (fun b hb => by
      have hne : b ≠ a := fun e => hn.1 (e ▸ hb)
      exact (List.mem_erase_of_ne hne).2 (hs b (List.mem_cons_of_mem _ hb)))
    rw [List.length_erase_of_mem hm] at this
    have hp : 0 < r.length := List.length_pos_of_mem hm
    simp only [List.length_cons]; omega
theorem keys_at {k : Kid} (h : k ∈ keysA) : ∃ i : Int, k = keyA i ∧ 0 ≤ i ∧ i ≤ 3 := by
  simp only [keysA, List.mem_cons, List.not_mem_nil, or_false] at h
  rcases h with rfl | rfl | rfl | rfl
  · exact ⟨0, rfl, by decide, by decide⟩
  · exact ⟨1, rfl, by decide, by decide⟩
  · exact ⟨2, rfl, by decide, by decide⟩
  · exact ⟨3, rfl, by decide, by decide⟩
theorem InvP.setHE {σ : HSt} (h : InvP σ) {k : Kid} (hk : k ∈ keysA) : σ.b.setHE k = 0 := by
  obtain ⟨i, rfl, h0, h1⟩ := keys_at hk
  have hb : σ.b.badK (keyA i) = false := by
    unfold BookV.badK
    rw [h.sb, h.nb]
    show (decide ((0 : Int) = 1) || (decide ((2 : Int) ≤ 0) || (decide ((1 : Int) < 1) || (decide ((9999999999 : Int) < 1) || decide (4 ≤ i))))) = false
    rw [decide_eq_false (show ¬ 4 ≤ i by omega)]; rfl
  have hl := len_sub _ keysA h.nd (fun a ha => h.he a (by
    cases e : lkt σ.b.helds a with
    | none => exact absurd ha (lkt_none.1 e)
    | some _ => rfl))
  rw [List.length_map] at hl
  have hl : σ.b.helds.length ≤ 4 := hl
  unfold BookV.setHE
  rw [hb, decide_eq_false (show ¬ 64 ≤ σ.b.helds.length by omega), Bool.and_false]; rfl
theorem InvP.setH {σ : HSt} (h : InvP σ) {k : Kid} (hk : k ∈ keysA) (x : HeldV) : σ.b.setH k x = { σ.b with helds := putt σ.b.helds k x } := by
  unfold BookV.setH; rw [h.setHE hk]; rfl
section
variable {A B : BookV} {D U D' U' : List MsV} {k : Kid}
end
end Go.Proofs.YtlekbdpdlalhbaaGreat
end
section
namespace Go.Proofs.YtlekbdpdlalhbaaGreat
set_option maxRecDepth 100000
open Go.RowKit Go.Lib Go.Tk Go.Shelf Go.Vc Go.Sx
set_option linter.unusedVariables false
set_option linter.unusedSimpArgs false

section
variable {A B : BookV} {D U : List MsV}
end
end Go.Proofs.YtlekbdpdlalhbaaGreat
end
section
namespace Go.Proofs.YtlekbdpdlalhbaaGreat
set_option maxRecDepth 100000
open Go.RowKit Go.Lib Go.Tk Go.Shelf Go.Vc Go.Sx
set_option linter.unusedVariables false
set_option linter.unusedSimpArgs false

end Go.Proofs.YtlekbdpdlalhbaaGreat
end
section
namespace Go.Proofs.YtlekbdpdlalhbaaGreat
open Go.RowKit Go.Lib Go.Tk

structure Msg where
  k : Int
  tc : Int
  tr : Int
  ix : Int
  lc : Int
  lf : Int
  lx : Int
  v : Int
  st : Int
  nn : Int
  amt : Int
  cd : Int
deriving DecidableEq, Inhabited
structure BoxV where
  wait : List Msg
  given : Int
  last : Int
structure PostV where
  self : Int
  n : Int
  box : Nat → BoxV
def PostV.other (P : PostV) (c : Int) : Bool := decide (0 ≤ c) && decide (c < P.n) && !decide (c = P.self)
def PostV.put (P : PostV) (c : Nat) (X : BoxV) : PostV := { P with box := fun i => if i = c then X else P.box i }
/-- the carriers that have a box -/
def PostV.cs (P : PostV) : List Nat := (List.range P.n.toNat).filter fun c => P.other c
end Go.Proofs.YtlekbdpdlalhbaaGreat
end
section
namespace Go.Proofs.YtlekbdpdlalhbaaGreat
open Go.RowKit Go.Lib Go.Tk Go.Shelf

end Go.Proofs.YtlekbdpdlalhbaaGreat
end
section
namespace Go.Proofs.YtlekbdpdlalhbaaGreat
open Go.RowKit Go.Lib Go.Tk Go.WideShapes

variable {H : Type} {enc : TypeId × Value → H} {w : World} {base : Nat} {spare : Nat → Bool} {held : Bool}

end Go.Proofs.YtlekbdpdlalhbaaGreat
end
section
namespace Go.Proofs.YtlekbdpdlalhbaaGreat
set_option maxRecDepth 100000
open Go.RowKit Go.Lib Go.Tk Go.Shelf Go.Vc Go.Sx Go.WideShapes
set_option linter.unusedVariables false
set_option linter.unusedSimpArgs false

section
variable {H : Type} {enc : TypeId × Value → H} {w : World} {base : Nat} {spare : Nat → Bool} {held : Bool}
end
end Go.Proofs.YtlekbdpdlalhbaaGreat
end
section
namespace Go.Proofs.YtlekbdpdlalhbaaGreat
set_option maxRecDepth 100000
open Go.RowKit Go.Lib Go.Tk Go.Shelf Go.Vc Go.Sx
set_option linter.unusedVariables false
set_option linter.unusedSimpArgs false

end Go.Proofs.YtlekbdpdlalhbaaGreat
end
section
namespace Go.Proofs.YtlekbdpdlalhbaaGreat
set_option maxRecDepth 100000
open Go.RowKit Go.Lib Go.Tk Go.Shelf Go.Vc Go.Sx
set_option linter.unusedVariables false
set_option linter.unusedSimpArgs false

/-! ### no book -/
/-! ### tickets that are known -/
def sale17 (fare : Int) : SaleV := ⟨⟨#[68, 79, 69, 47, 74]⟩, [⟨1, 0, 1⟩, ⟨0, 0, 1⟩], fare, [], 20⟩
theorem sale17_ok {fare : Int} (h : 0 ≤ fare ∧ fare ≤ 1000) : SaleOk (sale17 fare) where
  name := by unfold maxLen; show (5 : Nat) ≤ _; decide
  legs := by intro l hl; simp [sale17] at hl; rcases hl with rfl | rfl <;> (unfold LegOk; decide)
  taxes := by intro t ht; cases ht
  fare := ⟨by show _ ≤ fare; omega, by show fare ≤ _; omega⟩
  pen := by show _ ≤ (20 : Int) ∧ (20 : Int) ≤ _; decide
  nl := by show (2 : Nat) ≤ _; decide
  nt := by show (0 : Nat) ≤ _; decide
def Known17F : Nat := 110
theorem known17_w (fare : Int) : CallOK Tryz.prog Known17F [.val (.int .i64 fare)] [] [] (.agg (salS (sale17 fare) (.raw 1 0) nilS)) [((1, 0), legD 2 (sale17 fare).legs)] := callOK_run 400 [] (by kernel_rfl) (by kernel_rfl)
theorem exIssue_D {B : BookV} (hb : BookOk B) {s : SaleV} (ok : SaleOk s) : CallOK Tryz.prog ExIssueF [.ptr 0 0 0, .agg (salS s (.raw 0 10) (.raw 0 11))] [((0, 10), legD s.legs.length s.legs), ((0, 11), taxD s.taxes.length s.taxes)] (bkC B) (xrV (exIssue B s)) (xrP (exIssue B s)) :=
  raw2 (args := fun x y => [.ptr 0 0 0, .agg (salS s x y)]) (issue_args s) (fun F A hl ht h1 h2 => exIssue_F F hb ok hl ht h1 h2) rfl rfl rfl
theorem exchange_D {B : BookV} (h : ExOk B) {t : Tid} (ht : TidOk t) {s : SaleV} (ok : SaleOk s) : CallOK Tryz.prog ExchangeF [.ptr 0 0 0, .agg (tidS t), .agg (salS s (.raw 0 10) (.raw 0 11))] [((0, 10), legD s.legs.length s.legs), ((0, 11), taxD s.taxes.length s.taxes)] (bkC B) (xrV (exExchange B t s)) (xrP (exExchange B t s)) :=
  raw2 (args := fun x y => [.ptr 0 0 0, .agg (tidS t), .agg (salS s x y)]) (fun ε ε' x y x' y' h1 h2 h3 => by simp only [SV.dens, SV.den, salS, tidS, h1, h2, h3 0 0 rfl]) (fun F A hl hta h1 h2 => exchange_F F h ht ok hl hta h1 h2) rfl rfl rfl
end Go.Proofs.YtlekbdpdlalhbaaGreat
end
section
namespace Go.Proofs.YtlekbdpdlalhbaaGreat
set_option maxRecDepth 100000
open Go.RowKit Go.Lib Go.Tk Go.Sort Go.Shelf

theorem sort_a : sortL (restsL 101 2 [1, 1]) = [(1, 0), (1, 1)] := by
  refine (sortL_unique ?_ ?_).symm
  · decide
  · decide
theorem share_a : shareV 101 [1, 1] = [51, 50] := by
  have e : shareE 101 [1, 1] = 0 := by decide
  unfold shareV
  rw [if_pos e]
  unfold shareL chosen
  have hs : ([1, 1] : List Int).sum = 2 := by decide
  rw [hs, sort_a]
  decide
theorem sort_b : sortL (restsL 50 2 [1, 1]) = [(0, 0), (0, 1)] := by
  refine (sortL_unique ?_ ?_).symm
  · decide
  · decide
theorem share_b : shareV 50 [1, 1] = [25, 25] := by
  have e : shareE 50 [1, 1] = 0 := by decide
  unfold shareV
  rw [if_pos e]
  unfold shareL chosen
  have hs : ([1, 1] : List Int).sum = 2 := by decide
  rw [hs, sort_b]
  decide
end Go.Proofs.YtlekbdpdlalhbaaGreat
end
section
namespace Go.Proofs.YtlekbdpdlalhbaaGreat
set_option maxRecDepth 100000
open Go.RowKit Go.Lib Go.Tk Go.Shelf Go.Vc Go.Sx
set_option linter.unusedVariables false
set_option linter.unusedSimpArgs false

def t11 : Tid := ⟨1, 1⟩
def t12 : Tid := ⟨1, 2⟩
def d17 : DocV := ⟨t11, sale17 101, [51, 50], ⟨0, 0⟩, ⟨0, 0⟩, 0, 101, 0, 0, 0⟩
def C17a : BookV := ⟨1, 3, [d17], [(⟨t11, 0⟩, ownNew ⟨1, 0, 1⟩ 51), (⟨t11, 1⟩, ownNew ⟨0, 0, 1⟩ 50)], []⟩
def C17b : BookV := ⟨1, 3, [d17, ⟨t12, sale17 50, [25, 25], ⟨0, 0⟩, ⟨0, 0⟩, 0, 50, 0, 0, 0⟩], [(⟨t11, 0⟩, ownNew ⟨1, 0, 1⟩ 51), (⟨t11, 1⟩, ownNew ⟨0, 0, 1⟩ 50), (⟨t12, 0⟩, ownNew ⟨1, 0, 1⟩ 25), (⟨t12, 1⟩, ownNew ⟨0, 0, 1⟩ 25)], []⟩
theorem share17a : shareV (sale17 101).fare (wsOf (sale17 101)) = [51, 50] := share_a
theorem share17b : shareV (sale17 50).fare (wsOf (sale17 50)) = [25, 25] := share_b
theorem iss17a : (bookNew 1 3).issued (sale17 101) = C17a := by unfold BookV.issued docMade; rw [share17a]; rfl
theorem iss17b : C17a.issued (sale17 50) = C17b := by unfold BookV.issued docMade; rw [share17b]; rfl
def C17c : BookV := (turnB (C17b.setD (exD1 C17a d17 (sale17 50))) t11 7).setD (exD2 C17a d17 (sale17 50))
theorem ex17a : exIssue (bookNew 1 3) (sale17 101) = ⟨0, t11, 101, [1, 1], C17a⟩ := by
  unfold exIssue
  rw [show decide ((bookNew 1 3).issE (sale17 101) = 0) = true by kernel_rfl]
  show toldX ((bookNew 1 3).issued (sale17 101)) (bookNew 1 3).nextT (priceI (sale17 101)) = _
  rw [iss17a]; kernel_rfl
theorem ex17b : exExchange C17a t11 (sale17 50) = ⟨0, t12, 0, [1, 1], C17c⟩ := by
  show exExchangeD C17a d17 (sale17 50) = _
  unfold exExchangeD exB2
  rw [iss17b]; kernel_rfl
theorem ex17c : exDisplay C17c t12 = ⟨0, t12, 11, [1, 1], C17c⟩ := by kernel_rfl
theorem ex17d : exRefund C17c t11 = ⟨6, tid0, 0, [], C17c⟩ := by kernel_rfl
def WakesF17 : Nat := 41
theorem wakes17_w : CallOK Tryz.prog WakesF17 [] [] [] (.val (.bool true)) [] := by
  have n1 := new_okC (self := 1) (n := 3) (by decide) (by decide)
  have k1 := known17_w 101
  have k2 := known17_w 50
  have i1 := exIssue_D (book_new_ok 1 3 (by decide)) (sale17_ok (fare := 101) (by decide))
  have h1 := exIssue_ok (new_ex 1 3 (by decide)) (sale17_ok (fare := 101) (by decide))
  rw [ex17a] at i1 h1
  have x2 := exchange_D (B := C17a) h1 (t := t11) ⟨by decide, by decide⟩ (sale17_ok (fare := 50) (by decide))
  have h2 := exExchange_ok (B := C17a) h1 t11 (sale17_ok (fare := 50) (by decide))
  rw [ex17b] at x2 h2
  have d3 := display_w (B := C17c) h2 (t := t12) ⟨by decide, by decide⟩
  rw [ex17c] at d3
  have r4 := refund_w (B := C17c) h2 (t := t11) ⟨by decide, by decide⟩
  rw [ex17d] at r4
  exact callOK_run 900 [hC 1 0 n1, hC 4 1 k1, hC 4 2 i1, hC 5 3 k2, hC 5 4 x2, hC 6 3 d3, hC 7 3 r4] (by kernel_rfl) (by kernel_rfl)
end Go.Proofs.YtlekbdpdlalhbaaGreat
end
section
namespace Go.Proofs.YtlekbdpdlalhbaaGreat
set_option maxRecDepth 100000
open Go.RowKit Go.Lib Go.Tk Go.Shelf Go.Vc Go.Sx
set_option linter.unusedVariables false
set_option linter.unusedSimpArgs false

theorem tid_docs {B : BookV} (h : BookOk B) {d : DocV} (hd : d ∈ B.docs) : TidOk d.t := by
  obtain ⟨j, hj, hjd⟩ := List.getElem_of_mem hd
  have e := h.docs j d (by rw [List.getElem?_eq_getElem hj, hjd])
  have hs := h.self
  have hn := h.n
  have hm := h.many
  rw [e]
  exact ⟨⟨by show 0 ≤ B.self; omega, by show B.self ≤ 255; omega⟩, by show 0 ≤ (j : Int) + 1; omega, by show (j : Int) + 1 ≤ _; omega⟩
theorem bal_doc (F : CF) {a b : Option Addr} {n cap m cap2 i : Nat} {eb : Env} {R : List Chunk} {J J2 : Act → World → Prop} {B : BookV} (eB : EB B) {k : Nat} {d : DocV} (hk : B.docs[k]? = some d)
    (hJ : ∀ ε a' w, Rel (ntOf Tryz.prog BalF17) 1 eb R ⟨balSl a n cap b m cap2 i ++ balDl B (k + 1), balH F B ++ [((1, 1), tidR (B.docs.map (·.t)))], 2⟩ ε a' w → J2 a' w) :
    Go Tryz.prog BalF17 (.val (.bool true)) ([((0, 9), .fam F)] ++ []) eb R .nrm (rgK Tryz.prog BalF17 19 [J, J2])
      (balSl a n cap b m cap2 i ++ balDl B k) (balH F B ++ [((1, 1), tidR (B.docs.map (·.t)))]) := by
  have hd := List.mem_of_getElem? hk
  have hlt : k < B.docs.length := by
    rcases Nat.lt_or_ge k B.docs.length with h | h
    · exact h
    · rw [List.getElem?_eq_none h] at hk; cases hk
  have ht := tid_nth (tids_get hk)
  have hkl : k < (B.docs.map (·.t)).length := by rw [List.length_map]; exact hlt
  have t0 := tid_docs eB.ex.bk hd
  have hf : lkD B.docs d.t = some d := lkD_mem_eq eB.nodup hd
  have hs := eB.ex.sm d hd
  have c1 := doc_ok t0 hf hs
  have q1 := load_eltG (P := Tryz.prog) (t := 25) (cs := tidS d.t) (n := (B.docs.map (·.t)).length) (p := 0) (j := 0) (b := k * 2) (E := 25) (size := 2) (u := .agg (tidS d.t)) (by kernel_rfl) ht
  have hv4 : d.vals.length ≤ 1000 := by
    have := (eB.ei.doc d hd).vals
    have h4 := coupL_len B d.t
    rw [← this, List.length_map]; omega
  by_cases h0 : d.dst = tid0
  · have g := eB.non hd h0
    have c2 := bal17_w (B := B) (d := d) t0 hv4 g.bal
    have e0 : (!(decide (d.dst.c = 0) && (decide (d.dst.r = 0) && true))) = false := by rw [h0]; rfl
    have fin := bal_sums F (a := a) (b := b) (n := n) (cap := cap) (m := m) (cap2 := cap2) (i := i) (eb := eb) (R := R) (J := J) eB hk g hJ
    clear hJ g
    exact leaf_cut (rgK Tryz.prog BalF17 27 [J, J2]) _ _ calNone false 400 [.opt 19 3 (.at_ 0 _ _ _ ⟨rfl, hkl⟩), hG 19 4 q1, hC 19 5 c1, hC 20 2 c2, hB 22 3 _ _ e0, .stop 27] calNone_ok (by kernel_rfl) fin
  · obtain ⟨x, hx, hfr, hcr, g⟩ := eB.lnk hd h0
    obtain ⟨hxm, hxt⟩ := lkD_mem hx
    have c2 := bal17_w (B := B) (d := d) t0 hv4 g.bal
    have t1 := tid_docs eB.ex.bk hxm
    rw [hxt] at t1
    have c3 := doc_ok t1 hx (eB.ex.sm x hxm)
    have e0 : (!(decide (d.dst.c = 0) && (decide (d.dst.r = 0) && true))) = true := by
      rcases Bool.eq_false_or_eq_true (tid0B d.dst) with e | e
      · exact absurd (tid0_eq e) h0
      · unfold tid0B at e; rw [e]; rfl
    have e1 : (!(decide (x.frm.c = d.t.c) && (decide (x.frm.r = d.t.r) && true))) = false := by rw [hfr]; simp
    have e2 : decide (x.credit < 0) = false := decide_eq_false (by omega)
    have fin := bal_sums F (a := a) (b := b) (n := n) (cap := cap) (m := m) (cap2 := cap2) (i := i) (eb := eb) (R := R) (J := J) eB hk g hJ
    clear hJ g
    exact leaf_cut (rgK Tryz.prog BalF17 27 [J, J2]) _ _ calNone false 400 [.opt 19 3 (.at_ 0 _ _ _ ⟨rfl, hkl⟩), hG 19 4 q1, hC 19 5 c1, hC 20 2 c2, hB 22 3 _ _ e0, hC 23 3 c3, hB 24 7 _ _ e1, hB 24 12 _ _ e2, .stop 27] calNone_ok (by kernel_rfl) fin
/-! ### acts, one behind the other -/
def goneB (B : BookV) (gone : List Kid) (i : Nat) : BookV := if i < gone.length then (hearQ B 0 (wantM (gone.getD i kid0))).b else B
def runE (acts : List Act17) (gone : List Kid) : Nat → BookV
  | 0 => bookNew 1 3
  | i + 1 => (doX (goneB (runE acts gone i) gone i) (acts.getD i act17Z)).b
theorem goneB_eb {B : BookV} (h : EB B) (gone : List Kid) (i : Nat) : EB (goneB B gone i) := by
  unfold goneB
  split
  · exact h.hear 0 _
  · exact h
theorem kidC_len (l : List Kid) : (cellsL kidC l).length = l.length * 3 := cellsL_len (enc := kidC) (size := 3) (fun _ => rfl) l
theorem encTaxL_len (l : List Tax) : (cellsL encTax l).length = l.length * 2 := cellsL_len (enc := encTax) (size := 2) (fun _ => rfl) l
theorem kid_nth {l : List Kid} {i : Nat} (h : i < l.length) : ∀ (ε : Env) (q : Nat) (v : SV), (kidS (l.getD i kid0))[q]? = some v → (cellsL kidC l)[i * 3 + q]? = some (v.den ε) :=
  cells_nth (enc := kidC) (encS := kidS) (fun _ _ => rfl) (fun _ => rfl) (getD_some h kid0)
/-- from the act on -/
theorem bal_act (F : CF) {a b : Option Addr} {cap m cap2 i : Nat} {acts : List Act17} (hRa : ∀ b v, Rd (F b v) a (cellsL act17C acts)) (hA : ∀ x ∈ acts, ActRd F x) (hl : acts.length ≤ 1073741824) (hi : i < acts.length) (hf : (acts.getD i act17Z).s.fare < 1099511627776)
    {eb : Env} {R : List Chunk} {J : Act → World → Prop} {B : BookV} (eB : EB B)
    (hJ : ∀ ε a' w, Rel (ntOf Tryz.prog BalF17) 1 eb R ⟨balSl a acts.length cap b m cap2 (i + 1), balH F (doX B (acts.getD i act17Z)).b, 2⟩ ε a' w → J a' w) :
    Go Tryz.prog BalF17 (.val (.bool true)) ([((0, 9), .fam F)] ++ []) eb R .nrm (rgK Tryz.prog BalF17 13 [J]) (balSl a acts.length cap b m cap2 i) (balH F B) := by
  have hin : acts.getD i act17Z ∈ acts := List.mem_of_getElem? (getD_some hi act17Z)
  have ha := hA _ hin
  have q1 := idx_openG (P := Tryz.prog) (t := AT17) (e := 100) (size := 8) (j := 9) (k := .i64) (cap := cap) (n := acts.length) Tryz.underlying97 (by kernel_rfl) (acts17_len acts) hRa hi
  have hpos : 0 < (cellsL act17C acts).length := by rw [acts17_len]; omega
  have nth := act17_nth hi
  have q2 := load_openG0 (P := Tryz.prog) (t := 100) (k := i * 8) (j := 9) (u := .agg (act17X (acts.getD i act17Z) (acts.getD i act17Z).d)) (by kernel_rfl) hRa nth hpos
  have c1 := do17_w F eB.ex ha
  have eB' := doX_eb eB ha.ok hf
  generalize acts.getD i act17Z = x at *
  have c2 := tickets_c eB'.ex.bk
  generalize eC : (doX B x).b = C at *
  have c1' : CallOK Tryz.prog Do17F [.ptr 0 0 0, .agg (act17X x x.d)] [((0, 9), .fam F)] (bkC B) (xrV (doX B x)) (bkC C ++ [((1, 0), stC (doX B x).st)]) := by rw [← eC]; exact c1
  clear c1
  have hmany := eB'.ex.bk.many
  refine go_loop (X := { k : Nat // k ≤ C.docs.length }) 1 [J] (fun x => (balSl a acts.length cap b m cap2 i ++ balDl C x.1, balH F C ++ [((1, 1), tidR (C.docs.map (·.t)))])) (fun x => C.docs.length - x.1) ⟨0, Nat.zero_le _⟩ calNone false 400 [hG 13 3 q1, hG 13 4 q2, hC 13 5 c1', hC 14 1 c2] calNone_ok (by kernel_rfl) ?_
  rintro ⟨k, hk⟩ J2 hJ2
  have hlen : (C.docs.map (·.t)).length = C.docs.length := List.length_map _
  by_cases h : k < C.docs.length
  · have z0 : decide ((k : Int) < ((C.docs.map (·.t)).length : Int)) = true := decide_eq_true (by omega)
    have fin := bal_doc F (a := a) (b := b) (n := acts.length) (cap := cap) (m := m) (cap2 := cap2) (i := i) (eb := eb) (R := R) (J := J) (J2 := J2) eB' (List.getElem?_eq_getElem h) (hJ2 ⟨k + 1, h⟩ (by show _ - (k + 1) < _ - k; omega))
    exact leaf_cut (rgK Tryz.prog BalF17 19 [J, J2]) _ _ calNone false 400 [hB 17 3 _ _ z0, .stop 19] calNone_ok (by kernel_rfl) fin
  · have he : k = C.docs.length := by omega
    subst he
    have z0 : decide ((C.docs.length : Int) < ((C.docs.map (·.t)).length : Int)) = false := decide_eq_false (by omega)
    have z1 : (!decide (sumK paidB C.docs C.docs.length = sumK (restB C) C.docs C.docs.length)) = false := by rw [sumK_all, sumK_all, eB'.total]; simp
    have z2 : IntKind.i64.wrap ((i : Int) + 1) = ((i + 1 : Nat) : Int) := by rw [wr_i64 (by omega)]; omega
    exact leaf_round (lpK Tryz.prog BalF17 0 []) false 400 [hB 17 3 _ _ z0, hB 37 2 _ _ z1, hI 8 1 IntKind.i64 _ _ z2] hJ (by kernel_rfl)
theorem bal17_law (F : CF) {a b : Option Addr} {cap cap2 : Nat} {acts : List Act17} {gone : List Kid} (hRa : ∀ b v, Rd (F b v) a (cellsL act17C acts)) (hRb : ∀ b' v, Rd (F b' v) b (cellsL kidC gone)) (hk : ∀ x ∈ gone, KidOk x) (hl : acts.length ≤ 9223372036854775807) (hl2 : gone.length ≤ 9223372036854775807)
    (hf : ∀ x ∈ acts, x.s.legs.length ≤ 9223372036854775807 ∧ x.s.taxes.length ≤ 9223372036854775807 ∧ x.s.name.size ≤ 9223372036854775807) (hA : greatM acts = false → ∀ x ∈ acts, ActRd F x) :
    CallOK Tryz.prog BalF17 [.val (.slice a acts.length cap), .val (.slice b gone.length cap2)] [((0, 9), .fam F)] [] (.val (.bool true)) [] := by
  have c0 := great17_w F (cap := cap) hRa hl hf
  have c9 := wakes17_w
  rcases Bool.eq_false_or_eq_true (greatM acts) with g | g
  · rw [g] at c0
    exact callOK_run 400 [hC 1 1 c0, hC 2 0 c9] (by kernel_rfl) (by kernel_rfl)
  rw [g] at c0
  have hA := hA g
  have hlen := (greatM_no g).1
  have hl30 : acts.length ≤ 1073741824 := by omega
  rcases Bool.eq_false_or_eq_true (decide ((100 : Int) < (gone.length : Int))) with g2 | g2
  · exact callOK_run 400 [hC 1 1 c0, hB 1 5 _ _ g2, hC 2 0 c9] (by kernel_rfl) (by kernel_rfl)
  have c1 := new_okC (self := 1) (n := 3) (by decide) (by decide)
  refine callOK_intro (by kernel_rfl) fun eb R => ?_
  refine go_loop (X := { i : Nat // i ≤ acts.length ∧ EB (runE acts gone i) }) 0 [] (fun x => (balSl a acts.length cap b gone.length cap2 x.1, balH F (runE acts gone x.1))) (fun x => acts.length - x.1) ⟨0, Nat.zero_le _, new_eb 1 3 (by decide)⟩ calNone false 400 [hC 1 1 c0, hB 1 5 _ _ g2, hC 3 0 c1] calNone_ok (by kernel_rfl) ?_
  rintro ⟨i, hi, eB⟩ J hJ
  by_cases h : i < acts.length
  · have z0 : decide ((i : Int) < (acts.length : Int)) = true := decide_eq_true (by omega)
    have q1 := idx_openG (P := Tryz.prog) (t := AT17) (e := 100) (size := 8) (j := 9) (k := .i64) (cap := cap) (n := acts.length) Tryz.underlying97 (by kernel_rfl) (acts17_len acts) hRa h
    have hpos : 0 < (cellsL act17C acts).length := by rw [acts17_len]; omega
    have nth := act17_nth h
    have q2 := load_openG2 (P := Tryz.prog) (t := 2) (k := i * 8) (j := 9) (u := .val (.int .i64 (acts.getD i act17Z).s.fare)) 3 2 (by kernel_rfl) hRa nth hpos
    rcases Bool.eq_false_or_eq_true (decide ((1099511627776 : Int) ≤ (acts.getD i act17Z).s.fare)) with e | e
    · exact leaf_end calNone false 400 [hB 7 3 _ _ z0, hG 9 2 q1, hG 9 5 q2, hB 9 6 _ _ e, hC 10 0 c9] calNone_ok (by kernel_rfl)
    have hfare : (acts.getD i act17Z).s.fare < 1099511627776 := by have := of_decide_eq_false e; omega
    have hin : acts.getD i act17Z ∈ acts := List.mem_of_getElem? (getD_some h act17Z)
    have eB' := doX_eb (goneB_eb eB gone i) (hA _ hin).ok hfare
    have fin := bal_act F (a := a) (b := b) (cap := cap) (m := gone.length) (cap2 := cap2) (eb := eb) (R := R) (J := J) hRa hA hl30 h hfare (goneB_eb eB gone i) (hJ ⟨i + 1, h, eB'⟩ (by show _ - (i + 1) < _ - i; omega))
    clear hJ
    by_cases hg : i < gone.length
    · have eg : goneB (runE acts gone i) gone i = (hearQ (runE acts gone i) 0 (wantM (gone.getD i kid0))).b := by unfold goneB; rw [if_pos hg]
      rw [eg] at fin
      have z1 : decide ((i : Int) < (gone.length : Int)) = true := decide_eq_true (by omega)
      have hkin : gone.getD i kid0 ∈ gone := List.mem_of_getElem? (getD_some hg kid0)
      have q3 := idx_openG (P := Tryz.prog) (t := 78) (e := 27) (size := 3) (j := 9) (k := .i64) (cap := cap2) (n := gone.length) Tryz.underlying78 (by kernel_rfl) (kidC_len gone) hRb hg
      have q4 := load_openG0 (P := Tryz.prog) (t := 27) (k := i * 3) (j := 9) (u := .agg (kidS (gone.getD i kid0))) (by kernel_rfl) hRb (kid_nth hg) (by rw [kidC_len]; omega)
      have c2 := hear_c (runE acts gone i) (c := 0) (by decide) (wantM (gone.getD i kid0)) ⟨by show (0 : Int) ≤ 1; decide, by show (1 : Int) ≤ 255; decide⟩ (hk _ hkin)
      generalize acts.getD i act17Z = x at *
      exact leaf_cut (rgK Tryz.prog BalF17 13 [J]) _ _ calNone false 400 [hB 7 3 _ _ z0, hG 9 2 q1, hG 9 5 q2, hB 9 6 _ _ e, hB 11 3 _ _ z1, hG 12 3 q3, hG 12 4 q4, hC 12 6 c2, .stop 13] calNone_ok (by kernel_rfl) fin
    · have eg : goneB (runE acts gone i) gone i = runE acts gone i := by unfold goneB; rw [if_neg hg]
      rw [eg] at fin
      have z1 : decide ((i : Int) < (gone.length : Int)) = false := decide_eq_false (by omega)
      exact leaf_cut (rgK Tryz.prog BalF17 13 [J]) _ _ calNone false 400 [hB 7 3 _ _ z0, hG 9 2 q1, hG 9 5 q2, hB 9 6 _ _ e, hB 11 3 _ _ z1, .stop 13] calNone_ok (by kernel_rfl) fin
  · have z0 : decide ((i : Int) < (acts.length : Int)) = false := decide_eq_false (by omega)
    exact leaf_end calNone false 400 [hB 7 3 _ _ z0, hC 39 0 c9] calNone_ok (by kernel_rfl)
/-! ### from what comes in -/
theorem slOk_row {w : World} {a : Option Addr} {xs : List Value} {n c : Nat} (hr : Row w a xs) (hx : a = none → xs.length = 0 → n = 0) (hn : a = none → c = 0) : SlOk a n c := ⟨fun e => ⟨hx e (by
  subst e
  cases hl : xs.length with
  | zero => rfl
  | succ k =>
    obtain ⟨b, off, h, -⟩ := hr 0 (by omega)
    cases h), hn e⟩⟩
theorem actRd_of {w : World} {x : Act17} (h : Act17In w x) (h1 : x.s.legs.length ≤ 1000) (h2 : x.s.taxes.length ≤ 1000) : ActRd (fun _ _ => oldC w) x where
  ok := h.ok.small h1 h2
  t := h.t
  hl := fun _ _ => rd_old h.at_.legs
  ht := fun _ _ => rd_old h.at_.taxes
  h1 := slOk_row h.at_.legs (fun _ e => by rw [cellsL_len encLeg_len] at e; omega) h.at_.lnil
  h2 := slOk_row h.at_.taxes (fun _ e => by rw [encTaxL_len] at e; omega) h.at_.tnil
theorem maxLen_le {n : Nat} (h : n ≤ maxLen) : n ≤ 9223372036854775807 := by unfold maxLen at h; omega
theorem balances_any (a : Option Addr) (l : List Act17) (c : Nat) (b : Option Addr) (g : List Kid) (c2 : Nat) (w : World) (hr : Row w a (cellsL act17C l)) (hn : a = none → c = 0) (hl : l.length ≤ maxLen) (ok : ∀ x ∈ l, Act17In w x)
    (hr2 : Row w b (cellsL kidC g)) (hn2 : b = none → c2 = 0) (hl2 : g.length ≤ maxLen) (ok2 : ∀ x ∈ g, KidOk x) :
    Calls Tryz.prog BalF17 #[.slice a l.length c, .slice b g.length c2] w fun e w' => e = .returned (.bool true) ∧ Below w.heap.size w w' :=
  (bal17_law (fun _ _ => oldC w) (cap := c) (cap2 := c2) (fun _ _ => rd_old hr) (fun _ _ => rd_old hr2) ok2 (maxLen_le hl) (maxLen_le hl2) (fun x hx => ⟨maxLen_le (ok x hx).ok.nl, maxLen_le (ok x hx).ok.nt, maxLen_le (ok x hx).ok.name⟩)
    (fun hg x hx => actRd_of (ok x hx) (by have := ((greatM_no hg).2 x hx).1; omega) (by have := ((greatM_no hg).2 x hx).2; omega)) (fun _ _ => (0, undef)) [] w (Mem.old w)).mono fun e w' ⟨x, h, hm⟩ => ⟨h, (show Mem (oldC w :: []) w' from hm).below 0 rfl⟩
end Go.Proofs.YtlekbdpdlalhbaaGreat
end
