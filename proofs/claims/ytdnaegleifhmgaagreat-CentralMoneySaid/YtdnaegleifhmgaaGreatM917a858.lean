/- Ky0, Ky1, Ky2, Ky3, KyS, Ky4, Kk1, Kk2, Kk3, Kk4, Kk5, Ce19, CeS. -/
import Derived.Test.YtdnaegleifhmgaaGreatM642530e
import Derived.Sort.MapsRangeIn
import Derived.RangeFuncSeq
import Derived.Test.YtdnaegleifhmgaaGreatMfa6bb7c
import Derived.RangeFuncBox
import Derived.RangeFuncNested
import Derived.RangeFuncBound
import Derived.RangeFuncCalls
import Derived.RangeFuncLeaves
import Derived.RangeFuncGives
import Derived.RangeFuncKeeps
import Derived.Shelf.Abstract
import Derived.Shelf.RegionOpen
import Derived.WalkKit
import Derived.OwnWalkIn
import Derived.TacticsInMore
import Derived.LoopNIn
import Derived.LoopIn
import Derived.Sort.LoopGhostIn
import Derived.Test.YtdnaegleifhmgaaGreatM0eb6659
import Derived.RangeFuncFrom
import Derived.RangeFuncWrites
import Derived.Test.YtdnaegleifhmgaaGreatMb6a2934
import Derived.Test.YtdnaegleifhmgaaGreatM009d203
import Derived.Sort.OwnSorted
import Derived.Shelf.SlLaysF0
import Derived.Shelf.SlSortCmp.NoneTotal
import Derived.Test.YtdnaegleifhmgaaGreatM6661197
import Derived.Deep.Cut
import Derived.Test.YtdnaegleifhmgaaGreatCe18
set_option maxRecDepth 100000
set_option linter.unusedVariables false
set_option linter.unusedSimpArgs false
set_option linter.unusedSectionVars false
section
namespace Go.Tk
open Go.RowKit Go.Lib Go.Maps
variable {κ : Type} {P : Program} {k : TypeId}
section
variable {F : Fence} {n : Nat} {w : World} {ops : Array Oper} {rest : List Oper} {o : Oper} {a : Act} {Q : Exit → Act → World → Prop} {K : KeyKind P k κ} {b : Nat} {L : List (κ × Value)} {e : TypeId}
end
end Go.Tk
end
section
namespace Go.Proofs.YtdnaegleifhmgaaGreat
open Go.RowKit Go.Lib Go.Tk Go.Shelf Go.Maps
attribute [local go_sem] Oper.semAt_some
end Go.Proofs.YtdnaegleifhmgaaGreat
end
section
namespace Go.Proofs.YtdnaegleifhmgaaGreat
open Go.RowKit Go.Lib Go.Tk Go.Shelf Go.Maps
attribute [local go_sem] Oper.semAt_some
attribute [-go_sem] loadCellsFrom
def tBox (W : World) (B : Nat) (x : Tid) : Prop := W.heap[B]? = some (.cells #[.int .u8 x.c, .int .u64 x.r] 31 (0, 0))
theorem tBox.kept {W W' : World} {row : Option Nat} {B : Nat} {x : Tid} (h : tBox W B x) (hg : W.grownBy W' row) (hr : ∀ r, row = some r → ∃ o : Obj, W.heap[r]? = some o ∧ o.isCells = false) : tBox W' B x :=
  (hg.block B (Array.getElem?_eq_some_iff.1 h).1 (fun e => by
    obtain ⟨o, ho, hc⟩ := hr B e.symm
    rw [show W.heap[B]? = _ from h] at ho
    cases ho
    cases hc)).trans h
end Go.Proofs.YtdnaegleifhmgaaGreat
end
section
namespace Go.Proofs.YtdnaegleifhmgaaGreat
open Go.RowKit Go.Lib Go.Tk Go.Shelf Go.Maps Go.Sort
section
variable {α : Type} [Inhabited α] {enc : α → List Value} {k : Nat}
end
set_option maxHeartbeats 400000 in
theorem compareU_any (a b : Int) (w : World) : Calls Tryz.prog 29 #[.int .u64 a, .int .u64 b] w fun e w' => e = .returned (.int .i64 (cmpI a b)) ∧ w = w' := by
  have h63 : ∀ (x : Int) (w : World), Calls Tryz.prog 48 #[.int .u64 x] w fun e w' => e = .returned (.bool false) ∧ w = w' := by
    intro x w
    go_enter Tryz.func48, Tryz.ntmps48
    go_wp2
    go_ret
    exact ⟨rfl, rfl⟩
  have H := hid h63
  clear h63
  rcases Int.lt_trichotomy a b with h | rfl | h
  · have F : Hid (cmpI a b = -1) := by unfold Hid cmpI; rw [if_pos h]
    go_enter Tryz.func29, Tryz.ntmps29
    go_wp2_with (go_at_call 48; refine (H.out _ _).mono ?_; rintro e w' ⟨rfl, rfl⟩)
    go_ret
    exact ⟨ret_i (by rw [F.out]), rfl⟩
  · have F : Hid (cmpI a a = 0) := by unfold Hid cmpI; simp
    go_enter Tryz.func29, Tryz.ntmps29
    go_wp2_with (go_at_call 48; refine (H.out _ _).mono ?_; rintro e w' ⟨rfl, rfl⟩)
    go_ret
    exact ⟨ret_i (by rw [F.out]), rfl⟩
  · have F : Hid (cmpI a b = 1) := by unfold Hid cmpI; rw [if_neg (by omega), if_pos h]
    go_enter Tryz.func29, Tryz.ntmps29
    go_wp2_with (go_at_call 48; refine (H.out _ _).mono ?_; rintro e w' ⟨rfl, rfl⟩)
    go_ret
    exact ⟨ret_i (by rw [F.out]), rfl⟩
def encS (c : Int) (r : Int) : List Value := [.int .u8 c, .int .u64 r]
end Go.Proofs.YtdnaegleifhmgaaGreat
end
section
namespace Go.Proofs.YtdnaegleifhmgaaGreat
open Go.RowKit Go.Lib Go.Tk Go.Shelf
end Go.Proofs.YtdnaegleifhmgaaGreat
end
section
namespace Go.Proofs.YtdnaegleifhmgaaGreat
open Go.RowKit Go.Lib Go.Tk Go.Shelf Go.Maps Go.Sort
section
variable {α : Type} [Inhabited α]
def sortBy (cf : α → α → Int) (l : List α) : List α := l.mergeSort fun x y => !(ltOf cf) y x
omit [Inhabited α] in
theorem sortBy_perm (cf : α → α → Int) (l : List α) : (sortBy cf l).Perm l := List.mergeSort_perm _ _
omit [Inhabited α] in
theorem sortBy_pair {cf : α → α → Int} (hS : SWO (ltOf cf)) (l : List α) : (sortBy cf l).Pairwise fun x y => (!(ltOf cf) y x) = true := by
  refine List.pairwise_mergeSort ?_ ?_ _
  · intro a b c h1 h2
    simp only [Bool.not_eq_true'] at h1 h2 ⊢
    exact hS.ntrans c b a h2 h1
  · intro a b
    cases h : ltOf cf b a with
    | false => simp
    | true => simp [hS.asymmA h]
omit [Inhabited α] in
theorem sortBy_eq {cf : α → α → Int} (hS : SWO (ltOf cf)) (hT : ∀ x y, (ltOf cf) x y = false → (ltOf cf) y x = false → x = y) {a b : List α} (h : a.Perm b) : sortBy cf a = sortBy cf b := by
  refine List.Perm.eq_of_pairwise (le := fun x y => (!(ltOf cf) y x) = true) ?_ (sortBy_pair hS a) (sortBy_pair hS b) (((sortBy_perm cf a).trans h).trans (sortBy_perm cf b).symm)
  intro a b _ _ h1 h2
  simp only [Bool.not_eq_true'] at h1 h2
  exact hT a b h2 h1
end
end Go.Proofs.YtdnaegleifhmgaaGreat
end
section
namespace Go.Proofs.YtdnaegleifhmgaaGreat
open Go.RowKit Go.Lib Go.Tk Go.Shelf Go.Maps
attribute [local go_sem] Oper.semAt_some
end Go.Proofs.YtdnaegleifhmgaaGreat
end
section
namespace Go.Proofs.YtdnaegleifhmgaaGreat
open Go.RowKit Go.Lib Go.Tk Go.Shelf Go.Maps
attribute [local go_sem] Oper.semAt_some
attribute [-go_sem] loadCellsFrom
def kBox (W : World) (B : Nat) (x : Kid) : Prop := W.heap[B]? = some (.cells #[.int .u8 x.t.c, .int .u64 x.t.r, .int .u8 x.i] 39 (0, 0))
theorem kBox.kept {W W' : World} {row : Option Nat} {B : Nat} {x : Kid} (h : kBox W B x) (hg : W.grownBy W' row) (hr : ∀ r, row = some r → ∃ o : Obj, W.heap[r]? = some o ∧ o.isCells = false) : kBox W' B x :=
  (hg.block B (Array.getElem?_eq_some_iff.1 h).1 (fun e => by
    obtain ⟨o, ho, hc⟩ := hr B e.symm
    rw [show W.heap[B]? = _ from h] at ho
    cases ho
    cases hc)).trans h
end Go.Proofs.YtdnaegleifhmgaaGreat
end
section
namespace Go.Proofs.YtdnaegleifhmgaaGreat
open Go.RowKit Go.Lib Go.Tk Go.Shelf Go.Maps Go.Sort
set_option maxHeartbeats 400000 in
theorem compareB_any (a b : Int) (w : World) : Calls Tryz.prog 28 #[.int .u8 a, .int .u8 b] w fun e w' => e = .returned (.int .i64 (cmpI a b)) ∧ w = w' := by
  have h63 : ∀ (x : Int) (w : World), Calls Tryz.prog 47 #[.int .u8 x] w fun e w' => e = .returned (.bool false) ∧ w = w' := by
    intro x w
    go_enter Tryz.func47, Tryz.ntmps47
    go_wp2
    go_ret
    exact ⟨rfl, rfl⟩
  have H := hid h63
  clear h63
  rcases Int.lt_trichotomy a b with h | rfl | h
  · have F : Hid (cmpI a b = -1) := by unfold Hid cmpI; rw [if_pos h]
    go_enter Tryz.func28, Tryz.ntmps28
    go_wp2_with (go_at_call 47; refine (H.out _ _).mono ?_; rintro e w' ⟨rfl, rfl⟩)
    go_ret
    exact ⟨ret_i (by rw [F.out]), rfl⟩
  · have F : Hid (cmpI a a = 0) := by unfold Hid cmpI; simp
    go_enter Tryz.func28, Tryz.ntmps28
    go_wp2_with (go_at_call 47; refine (H.out _ _).mono ?_; rintro e w' ⟨rfl, rfl⟩)
    go_ret
    exact ⟨ret_i (by rw [F.out]), rfl⟩
  · have F : Hid (cmpI a b = 1) := by unfold Hid cmpI; rw [if_neg (by omega), if_pos h]
    go_enter Tryz.func28, Tryz.ntmps28
    go_wp2_with (go_at_call 47; refine (H.out _ _).mono ?_; rintro e w' ⟨rfl, rfl⟩)
    go_ret
    exact ⟨ret_i (by rw [F.out]), rfl⟩
def orI (a b c : Int) : Int := if a = 0 then (if b = 0 then c else b) else a
set_option maxHeartbeats 2000000 in
theorem or_any (B : Nat) (a b c : Int) (w : World) (h0 : w.cell? ⟨B, 0, none⟩ = some (.int .i64 a)) (h1 : w.cell? ⟨B, 1, none⟩ = some (.int .i64 b)) (h2 : w.cell? ⟨B, 2, none⟩ = some (.int .i64 c)) :
    Calls Tryz.prog 27 #[.slice (some ⟨B, 0, none⟩) 3 3] w fun e w' => e = .returned (.int .i64 (orI a b c)) ∧ w = w' := by
  by_cases ha : a = 0
  · by_cases hb : b = 0
    · by_cases hc : c = 0
      · have E : Hid (orI a b c = 0) := by unfold Hid orI; rw [if_pos ha, if_pos hb]; exact hc
        subst ha hb hc
        go_enter Tryz.func27, Tryz.ntmps27
        go_wp2
        refine wp_loop_rounds 4 ?_
        iterate 4 (rw [rounds_succ]; go_wp2)
        go_ret
        exact ⟨ret_i (by rw [E.out]), rfl⟩
      · have E : Hid (orI a b c = c) := by unfold Hid orI; rw [if_pos ha, if_pos hb]
        subst ha hb
        go_enter Tryz.func27, Tryz.ntmps27
        go_wp2
        refine wp_loop_rounds 4 ?_
        iterate 3 (rw [rounds_succ]; go_wp2)
        go_ret
        exact ⟨ret_i (by rw [E.out]), rfl⟩
    · have E : Hid (orI a b c = b) := by unfold Hid orI; rw [if_pos ha, if_neg hb]
      subst ha
      go_enter Tryz.func27, Tryz.ntmps27
      go_wp2
      refine wp_loop_rounds 4 ?_
      iterate 2 (rw [rounds_succ]; go_wp2)
      go_ret
      exact ⟨ret_i (by rw [E.out]), rfl⟩
  · have E : Hid (orI a b c = a) := by unfold Hid orI; rw [if_neg ha]
    go_enter Tryz.func27, Tryz.ntmps27
    go_wp2
    refine wp_loop_rounds 4 ?_
    rw [rounds_succ]; go_wp2
    go_ret
    exact ⟨ret_i (by rw [E.out]), rfl⟩
end Go.Proofs.YtdnaegleifhmgaaGreat
end
section
namespace Go.Proofs.YtdnaegleifhmgaaGreat
open Go.RowKit Go.Lib Go.Tk Go.Shelf Go.Maps Go.Sort
def cfK (x y : Kid) : Int := orI (cmpI x.t.c y.t.c) (cmpI x.t.r y.t.r) (cmpI x.i y.i)
end Go.Proofs.YtdnaegleifhmgaaGreat
end
section
namespace Go.Proofs.YtdnaegleifhmgaaGreat
open Go.RowKit Go.Lib Go.Tk Go.Shelf Go.Maps Go.Sort
def ltK (x y : Kid) : Prop := x.t.c < y.t.c ∨ (x.t.c = y.t.c ∧ (x.t.r < y.t.r ∨ (x.t.r = y.t.r ∧ x.i < y.i)))
theorem lt_kid (x y : Kid) : (ltOf cfK x y = true) ↔ ltK x y := by
  unfold ltOf cfK orI ltK cmpI
  rcases Int.lt_trichotomy x.t.c y.t.c with h | h | h
  · have : ¬ y.t.c < x.t.c := by omega
    simp [h]
  · rw [h]
    rcases Int.lt_trichotomy x.t.r y.t.r with g | g | g
    · simp [g]
    · rw [g]
      rcases Int.lt_trichotomy x.i y.i with k | k | k
      · simp [k]
      · rw [k]; simp
      · have : ¬ x.i < y.i := by omega
        simp [k, this]
    · have a : ¬ x.t.r < y.t.r := by omega
      have b : ¬ x.t.r = y.t.r := by omega
      simp [g, a, b]
  · have a : ¬ x.t.c < y.t.c := by omega
    have b : ¬ x.t.c = y.t.c := by omega
    simp [h, a, b]
theorem lt_kid_no (x y : Kid) : (ltOf cfK x y = false) ↔ ¬ ltK x y := by
  rw [← lt_kid]
  cases ltOf cfK x y <;> simp
theorem swoK : SWO (ltOf cfK) where
  irrefl x := by rw [lt_kid_no]; unfold ltK; omega
  trans x y z h1 h2 := by rw [lt_kid] at *; unfold ltK at *; omega
  ntrans x y z h1 h2 := by rw [lt_kid_no] at *; unfold ltK at *; omega
theorem totK (x y : Kid) (h1 : ltOf cfK x y = false) (h2 : ltOf cfK y x = false) : x = y := by
  rw [lt_kid_no] at h1 h2
  unfold ltK at h1 h2
  obtain ⟨⟨a, b⟩, c⟩ := x
  obtain ⟨⟨d, e⟩, f⟩ := y
  simp only at h1 h2
  have e1 : a = d := by omega
  have e2 : b = e := by omega
  have e3 : c = f := by omega
  rw [e1, e2, e3]
end Go.Proofs.YtdnaegleifhmgaaGreat
end
section
namespace Go.Proofs.YtdnaegleifhmgaaGreat
open Go.RowKit Go.Lib Go.Tk Go.Shelf Go.Vc Go.Sx Go.Maps Go.Sort
def plL (B : LedV) : List PlaceV := (sortBy cfK (B.slips.map (·.1))).map fun k => (sAt B.slips k).p
abbrev pAt (l : List PlaceV) (i : Nat) : PlaceV := l.getD i place0
def Ups (l : List PlaceV) : Prop := ∀ x y, x < y → y < l.length → ltK (pAt l x).key (pAt l y).key
theorem ltK_irr (x : Kid) : ¬ ltK x x := by unfold ltK; omega
theorem ltK_tr {x y z : Kid} (h1 : ltK x y) (h2 : ltK y z) : ltK x z := by unfold ltK at *; omega
theorem ltK_tot {x y : Kid} (h1 : ¬ ltK x y) (h2 : ¬ ltK y x) : x = y := totK x y ((lt_kid_no x y).2 h1) ((lt_kid_no y x).2 h2)
theorem plL_pw {B : LedV} (h : LedG B) : (plL B).Pairwise fun a b => ltK a.key b.key := by
  have h1 := sortBy_pair swoK (B.slips.map (·.1))
  have hp := sortBy_perm cfK (B.slips.map (·.1))
  have hn : (sortBy cfK (B.slips.map (·.1))).Nodup := hp.nodup_iff.2 h.knd
  have h2 : (sortBy cfK (B.slips.map (·.1))).Pairwise fun x y => x ≠ y := hn
  have hk : ∀ k ∈ sortBy cfK (B.slips.map (·.1)), (sAt B.slips k).p.key = k := fun k q => by
    have q := hp.mem_iff.1 q
    cases e : lkt B.slips k with
    | none => exact absurd q (lkt_none.1 e)
    | some s =>
      have := (h.ok.key k s e).1
      unfold sAt; rw [e]; exact this
  unfold plL
  rw [List.pairwise_map]
  refine (List.Pairwise.and_mem.1 (h1.and h2)).imp fun {x y} q => ?_
  obtain ⟨hx, hy, q1, q2⟩ := q
  rw [hk x hx, hk y hy]
  have q1 : ltOf cfK y x = false := by simpa using q1
  have q1 := (lt_kid_no y x).1 q1
  by_cases g : ltK x y
  · exact g
  · exact absurd (ltK_tot g q1) q2
theorem plL_len (B : LedV) : (plL B).length = B.slips.length := by
  unfold plL
  rw [List.length_map, (sortBy_perm cfK (B.slips.map (·.1))).length_eq, List.length_map]
theorem plL_mem {B : LedV} (h : LedG B) {p : PlaceV} : p ∈ plL B ↔ ∃ s, lkt B.slips p.key = some s ∧ s.p = p := by
  have hp := sortBy_perm cfK (B.slips.map (·.1))
  constructor
  · intro q
    obtain ⟨k, hk, e⟩ := List.mem_map.1 q
    have hk := hp.mem_iff.1 hk
    cases g : lkt B.slips k with
    | none => exact absurd hk (lkt_none.1 g)
    | some s =>
      have e1 : s.p = p := by rw [← e]; unfold sAt; rw [g]; rfl
      have := (h.ok.key k s g).1
      rw [e1] at this
      exact ⟨s, by rw [this]; exact g, e1⟩
  · rintro ⟨s, e, rfl⟩
    refine List.mem_map.2 ⟨s.p.key, hp.mem_iff.2 ?_, by unfold sAt; rw [e]; rfl⟩
    exact List.mem_map.2 ⟨(s.p.key, s), lkt_mem e, rfl⟩
theorem pAt_mem {l : List PlaceV} {i : Nat} (h : i < l.length) : pAt l i ∈ l := by
  unfold pAt
  rw [List.getD_eq_getElem?_getD, List.getElem?_eq_getElem h]
  exact List.getElem_mem h
theorem mem_pAt {l : List PlaceV} {p : PlaceV} (h : p ∈ l) : ∃ i, i < l.length ∧ pAt l i = p := by
  obtain ⟨i, hi, e⟩ := List.mem_iff_getElem.1 h
  exact ⟨i, hi, by unfold pAt; rw [List.getD_eq_getElem?_getD, List.getElem?_eq_getElem hi]; exact e⟩
structure Wk (a b : List PlaceV) (i j : Nat) : Prop where
  hi : i ≤ a.length
  hj : j ≤ b.length
  up : ∀ x, i ≤ x → x < a.length → ∃ y, j ≤ y ∧ y < b.length ∧ (pAt b y).key = (pAt a x).key
  dn : ∀ x, x < i → ∀ y, j ≤ y → y < b.length → ltK (pAt a x).key (pAt b y).key
theorem Wk.start {a b : List PlaceV} (h : ∀ p ∈ a, ∃ q ∈ b, q.key = p.key) : Wk a b 0 0 :=
  ⟨Nat.zero_le _, Nat.zero_le _, fun x _ hx => by
    obtain ⟨q, hq, e⟩ := h _ (pAt_mem hx)
    obtain ⟨y, hy, rfl⟩ := mem_pAt hq
    exact ⟨y, Nat.zero_le _, hy, e⟩, fun x hx => absurd hx (Nat.not_lt_zero _)⟩
theorem Wk.fin {a b : List PlaceV} {i j : Nat} (h : Wk a b i j) (hi : i < a.length) : j < b.length := by
  obtain ⟨y, h1, h2, -⟩ := h.up i (Nat.le_refl _) hi
  omega
theorem Wk.other {a b : List PlaceV} (sa : Ups a) (sb : Ups b) {i j : Nat} (h : Wk a b i j) (hj : j < b.length) (hne : i < a.length → (pAt b j).key ≠ (pAt a i).key) {x : Nat} (hx : x < a.length) : (pAt a x).key ≠ (pAt b j).key := fun e => by
  by_cases q : x < i
  · have := h.dn x q j (Nat.le_refl _) hj
    rw [e] at this
    exact ltK_irr _ this
  · have hia : i < a.length := by omega
    have hxi : x ≠ i := fun e2 => hne hia (by rw [← e, e2])
    obtain ⟨y, h1, h2, h3⟩ := h.up i (Nat.le_refl _) hia
    have hyj : y ≠ j := fun e2 => hne hia (by rw [← h3, e2])
    have q1 := sa i x (by omega) hx
    have q2 := sb j y (by omega) h2
    rw [h3] at q2
    rw [e] at q1
    exact ltK_irr _ (ltK_tr q1 q2)
theorem Wk.skip {a b : List PlaceV} (sa : Ups a) (sb : Ups b) {i j : Nat} (h : Wk a b i j) (hj : j < b.length) (hne : i < a.length → (pAt b j).key ≠ (pAt a i).key) : Wk a b i (j + 1) :=
  ⟨h.hi, hj, fun x h1 h2 => by
    obtain ⟨y, q1, q2, q3⟩ := h.up x h1 h2
    have : y ≠ j := fun e => h.other sa sb hj hne h2 (by rw [← q3, e])
    exact ⟨y, by omega, q2, q3⟩, fun x h1 y h2 h3 => h.dn x h1 y (by omega) h3⟩
theorem Wk.both {a b : List PlaceV} (sa : Ups a) (sb : Ups b) {i j : Nat} (h : Wk a b i j) (hi : i < a.length) (hj : j < b.length) (e : (pAt b j).key = (pAt a i).key) : Wk a b (i + 1) (j + 1) :=
  ⟨hi, hj, fun x h1 h2 => by
    obtain ⟨y, q1, q2, q3⟩ := h.up x (by omega) h2
    have : y ≠ j := fun e2 => by
      have q4 := sa i x (by omega) h2
      rw [← q3, e2, e] at q4
      exact ltK_irr _ q4
    exact ⟨y, by omega, q2, q3⟩, fun x h1 y h2 h3 => by
    by_cases q : x < i
    · exact h.dn x q y (by omega) h3
    · obtain rfl : x = i := by omega
      rw [← e]
      exact sb j y (by omega) h3⟩
theorem Wk.len {a b : List PlaceV} (sa : Ups a) (sb : Ups b) : ∀ (n : Nat) {i j : Nat}, Wk a b i j → b.length - j = n → a.length - i ≤ n
  | 0, i, j, h, e => by
    by_cases q : i < a.length
    · have := h.fin q; omega
    · omega
  | n + 1, i, j, h, e => by
    have hj : j < b.length := by omega
    by_cases q : i < a.length ∧ (pAt b j).key = (pAt a i).key
    · have := Wk.len sa sb n (h.both sa sb q.1 hj q.2) (by omega)
      omega
    · have := Wk.len sa sb n (h.skip sa sb hj (fun h1 h2 => q ⟨h1, h2⟩)) (by omega)
      omega
section
variable {B : LedV} {P W : Kid → Prop} {q : CR}
end
end Go.Proofs.YtdnaegleifhmgaaGreat
end
section
namespace Go.Proofs.YtdnaegleifhmgaaGreat
open Go.RowKit Go.Lib Go.Tk Go.Shelf
def sortP_ren : Go.Shelf.Ren := ⟨fun | 6 => 25 | 15 => 46 | 28 => 87 | 29 => 88 | 47 => 118 | 48 => 119 | 14 => 45 | 20 => 79 | 21 => 80 | 22 => 81 | 23 => 82 | 24 => 83 | 25 => 84 | 26 => 85 | 27 => 86 | 46 => 117 | 49 => 120 | 50 => 121 | 57 => 136 | n => n, fun | 22 => 53 | 24 => 61 | 25 => 91 | 3 => 3 | 39 => 116 | 0 => 0 | 53 => 41 | 55 => 29 | 4 => 4 | 46 => 145 | 45 => 144 | 50 => 149 | 5 => 5 | 9 => 9 | 66 => 175 | 70 => 179 | 76 => 197 | 77 => 198 | n => n, fun n => n⟩
theorem sortP : SlLaysF0.n6 Tryz.prog sortP_ren where
  mixed := by kernel_rfl
  f6 := ⟨ "slices.SortFunc[[]tarmac/api.Place,tarmac/api.Place]", by decide, Tryz.func25.trans (congrArg some (by kernel_rfl))⟩
  f14 := ⟨ "slices.pdqsortCmpFunc[tarmac/api.Place]", by decide, Tryz.func45.trans (congrArg some (by kernel_rfl))⟩
  f15 := Tryz.func46.trans (congrArg some (by kernel_rfl))
  f20 := ⟨ "slices.insertionSortCmpFunc[tarmac/api.Place]", by decide, Tryz.func79.trans (congrArg some (by kernel_rfl))⟩
  f21 := ⟨ "slices.heapSortCmpFunc[tarmac/api.Place]", by decide, Tryz.func80.trans (congrArg some (by kernel_rfl))⟩
  f22 := ⟨ "slices.breakPatternsCmpFunc[tarmac/api.Place]", by decide, Tryz.func81.trans (congrArg some (by kernel_rfl))⟩
  f23 := ⟨ "slices.choosePivotCmpFunc[tarmac/api.Place]", by decide, Tryz.func82.trans (congrArg some (by kernel_rfl))⟩
  f24 := ⟨ "slices.reverseRangeCmpFunc[tarmac/api.Place]", by decide, Tryz.func83.trans (congrArg some (by kernel_rfl))⟩
  f25 := ⟨ "slices.partialInsertionSortCmpFunc[tarmac/api.Place]", by decide, Tryz.func84.trans (congrArg some (by kernel_rfl))⟩
  f26 := ⟨ "slices.partitionEqualCmpFunc[tarmac/api.Place]", by decide, Tryz.func85.trans (congrArg some (by kernel_rfl))⟩
  f27 := ⟨ "slices.partitionCmpFunc[tarmac/api.Place]", by decide, Tryz.func86.trans (congrArg some (by kernel_rfl))⟩
  f28 := Tryz.func87.trans (congrArg some (by kernel_rfl))
  f29 := Tryz.func88.trans (congrArg some (by kernel_rfl))
  f46 := ⟨ "slices.siftDownCmpFunc[tarmac/api.Place]", by decide, Tryz.func117.trans (congrArg some (by kernel_rfl))⟩
  f47 := Tryz.func118.trans (congrArg some (by kernel_rfl))
  f48 := Tryz.func119.trans (congrArg some (by kernel_rfl))
  f49 := ⟨ "slices.medianAdjacentCmpFunc[tarmac/api.Place]", by decide, Tryz.func120.trans (congrArg some (by kernel_rfl))⟩
  f50 := ⟨ "slices.medianCmpFunc[tarmac/api.Place]", by decide, Tryz.func121.trans (congrArg some (by kernel_rfl))⟩
  f57 := ⟨ "slices.order2CmpFunc[tarmac/api.Place]", by decide, Tryz.func136.trans (congrArg some (by kernel_rfl))⟩
  t0 := Tryz.underlying0
  a0 := Tryz.isAgg0
  z0 := Tryz.sizeOf0
  v0 := Tryz.zeroValue0
  t3 := Tryz.underlying3
  a3 := Tryz.isAgg3
  z3 := Tryz.sizeOf3
  v3 := Tryz.zeroValue3
  t4 := Tryz.underlying4
  a4 := Tryz.isAgg4
  z4 := Tryz.sizeOf4
  v4 := Tryz.zeroValue4
  t5 := Tryz.underlying5
  a5 := Tryz.isAgg5
  z5 := Tryz.sizeOf5
  v5 := Tryz.zeroValue5
  t9 := Tryz.underlying9
  a9 := Tryz.isAgg9
  z9 := Tryz.sizeOf9
  v9 := Tryz.zeroValue9
  t22 := Tryz.underlying53
  a22 := Tryz.isAgg53
  z22 := Tryz.sizeOf53
  v22 := Tryz.zeroValue53
  t25 := Tryz.underlying91
  a25 := Tryz.isAgg91
  z25 := Tryz.sizeOf91
  v25 := Tryz.zeroValue91
  t39 := Tryz.underlying116
  a39 := Tryz.isAgg116
  z39 := Tryz.sizeOf116
  v39 := Tryz.zeroValue116
  t45 := Tryz.underlying144
  a45 := Tryz.isAgg144
  z45 := Tryz.sizeOf144
  v45 := Tryz.zeroValue144
  t46 := Tryz.underlying145
  a46 := Tryz.isAgg145
  z46 := Tryz.sizeOf145
  v46 := Tryz.zeroValue145
  t50 := Tryz.underlying149
  a50 := Tryz.isAgg149
  z50 := Tryz.sizeOf149
  v50 := Tryz.zeroValue149
  t53 := Tryz.underlying41
  a53 := Tryz.isAgg41
  z53 := Tryz.sizeOf41
  v53 := Tryz.zeroValue41
  t55 := Tryz.underlying29
  a55 := Tryz.isAgg29
  z55 := Tryz.sizeOf29
  v55 := Tryz.zeroValue29
  t66 := Tryz.underlying175
  a66 := Tryz.isAgg175
  z66 := Tryz.sizeOf175
  v66 := Tryz.zeroValue175
  t70 := Tryz.underlying179
  a70 := Tryz.isAgg179
  z70 := Tryz.sizeOf179
  v70 := Tryz.zeroValue179
  t76 := Tryz.underlying197
  a76 := Tryz.isAgg197
  z76 := Tryz.sizeOf197
  v76 := Tryz.zeroValue197
  t77 := Tryz.underlying198
  a77 := Tryz.isAgg198
  z77 := Tryz.sizeOf198
  v77 := Tryz.zeroValue198
def sortD_ren : Go.Shelf.Ren := ⟨fun | 6 => 39 | 15 => 46 | 28 => 87 | 29 => 88 | 47 => 118 | 48 => 119 | 14 => 74 | 20 => 109 | 21 => 110 | 22 => 111 | 23 => 112 | 24 => 113 | 25 => 114 | 26 => 115 | 27 => 116 | 46 => 133 | 49 => 134 | 50 => 135 | 57 => 142 | n => n, fun | 22 => 70 | 24 => 76 | 25 => 110 | 3 => 3 | 39 => 116 | 0 => 0 | 53 => 41 | 55 => 29 | 4 => 4 | 46 => 145 | 45 => 144 | 50 => 149 | 5 => 5 | 9 => 9 | 66 => 175 | 70 => 179 | 76 => 197 | 77 => 198 | n => n, fun n => n⟩
theorem sortD : SlLaysF0.n6 Tryz.prog sortD_ren where
  mixed := by kernel_rfl
  f6 := ⟨ "slices.SortFunc[[]tarmac/api.Doc,tarmac/api.Doc]", by decide, Tryz.func39.trans (congrArg some (by kernel_rfl))⟩
  f14 := ⟨ "slices.pdqsortCmpFunc[tarmac/api.Doc]", by decide, Tryz.func74.trans (congrArg some (by kernel_rfl))⟩
  f15 := Tryz.func46.trans (congrArg some (by kernel_rfl))
  f20 := ⟨ "slices.insertionSortCmpFunc[tarmac/api.Doc]", by decide, Tryz.func109.trans (congrArg some (by kernel_rfl))⟩
  f21 := ⟨ "slices.heapSortCmpFunc[tarmac/api.Doc]", by decide, Tryz.func110.trans (congrArg some (by kernel_rfl))⟩
  f22 := ⟨ "slices.breakPatternsCmpFunc[tarmac/api.Doc]", by decide, Tryz.func111.trans (congrArg some (by kernel_rfl))⟩
  f23 := ⟨ "slices.choosePivotCmpFunc[tarmac/api.Doc]", by decide, Tryz.func112.trans (congrArg some (by kernel_rfl))⟩
  f24 := ⟨ "slices.reverseRangeCmpFunc[tarmac/api.Doc]", by decide, Tryz.func113.trans (congrArg some (by kernel_rfl))⟩
  f25 := ⟨ "slices.partialInsertionSortCmpFunc[tarmac/api.Doc]", by decide, Tryz.func114.trans (congrArg some (by kernel_rfl))⟩
  f26 := ⟨ "slices.partitionEqualCmpFunc[tarmac/api.Doc]", by decide, Tryz.func115.trans (congrArg some (by kernel_rfl))⟩
  f27 := ⟨ "slices.partitionCmpFunc[tarmac/api.Doc]", by decide, Tryz.func116.trans (congrArg some (by kernel_rfl))⟩
  f28 := Tryz.func87.trans (congrArg some (by kernel_rfl))
  f29 := Tryz.func88.trans (congrArg some (by kernel_rfl))
  f46 := ⟨ "slices.siftDownCmpFunc[tarmac/api.Doc]", by decide, Tryz.func133.trans (congrArg some (by kernel_rfl))⟩
  f47 := Tryz.func118.trans (congrArg some (by kernel_rfl))
  f48 := Tryz.func119.trans (congrArg some (by kernel_rfl))
  f49 := ⟨ "slices.medianAdjacentCmpFunc[tarmac/api.Doc]", by decide, Tryz.func134.trans (congrArg some (by kernel_rfl))⟩
  f50 := ⟨ "slices.medianCmpFunc[tarmac/api.Doc]", by decide, Tryz.func135.trans (congrArg some (by kernel_rfl))⟩
  f57 := ⟨ "slices.order2CmpFunc[tarmac/api.Doc]", by decide, Tryz.func142.trans (congrArg some (by kernel_rfl))⟩
  t0 := Tryz.underlying0
  a0 := Tryz.isAgg0
  z0 := Tryz.sizeOf0
  v0 := Tryz.zeroValue0
  t3 := Tryz.underlying3
  a3 := Tryz.isAgg3
  z3 := Tryz.sizeOf3
  v3 := Tryz.zeroValue3
  t4 := Tryz.underlying4
  a4 := Tryz.isAgg4
  z4 := Tryz.sizeOf4
  v4 := Tryz.zeroValue4
  t5 := Tryz.underlying5
  a5 := Tryz.isAgg5
  z5 := Tryz.sizeOf5
  v5 := Tryz.zeroValue5
  t9 := Tryz.underlying9
  a9 := Tryz.isAgg9
  z9 := Tryz.sizeOf9
  v9 := Tryz.zeroValue9
  t22 := Tryz.underlying70
  a22 := Tryz.isAgg70
  z22 := Tryz.sizeOf70
  v22 := Tryz.zeroValue70
  t25 := Tryz.underlying110
  a25 := Tryz.isAgg110
  z25 := Tryz.sizeOf110
  v25 := Tryz.zeroValue110
  t39 := Tryz.underlying116
  a39 := Tryz.isAgg116
  z39 := Tryz.sizeOf116
  v39 := Tryz.zeroValue116
  t45 := Tryz.underlying144
  a45 := Tryz.isAgg144
  z45 := Tryz.sizeOf144
  v45 := Tryz.zeroValue144
  t46 := Tryz.underlying145
  a46 := Tryz.isAgg145
  z46 := Tryz.sizeOf145
  v46 := Tryz.zeroValue145
  t50 := Tryz.underlying149
  a50 := Tryz.isAgg149
  z50 := Tryz.sizeOf149
  v50 := Tryz.zeroValue149
  t53 := Tryz.underlying41
  a53 := Tryz.isAgg41
  z53 := Tryz.sizeOf41
  v53 := Tryz.zeroValue41
  t55 := Tryz.underlying29
  a55 := Tryz.isAgg29
  z55 := Tryz.sizeOf29
  v55 := Tryz.zeroValue29
  t66 := Tryz.underlying175
  a66 := Tryz.isAgg175
  z66 := Tryz.sizeOf175
  v66 := Tryz.zeroValue175
  t70 := Tryz.underlying179
  a70 := Tryz.isAgg179
  z70 := Tryz.sizeOf179
  v70 := Tryz.zeroValue179
  t76 := Tryz.underlying197
  a76 := Tryz.isAgg197
  z76 := Tryz.sizeOf197
  v76 := Tryz.zeroValue197
  t77 := Tryz.underlying198
  a77 := Tryz.isAgg198
  z77 := Tryz.sizeOf198
  v77 := Tryz.zeroValue198
end Go.Proofs.YtdnaegleifhmgaaGreat
end
