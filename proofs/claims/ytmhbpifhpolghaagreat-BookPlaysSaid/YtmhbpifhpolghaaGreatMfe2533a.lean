/- Ky3, KyS, Ky4, Kk1, Kk2, Kk3, Kk4, Kk5, Kk6, Ky5. -/
import Derived.Test.YtmhbpifhpolghaaGreatM2efc9fd
import Derived.Sort.OwnSorted
import Derived.Shelf.SlLaysF0
import Derived.Shelf.SlSortCmp.NoneTotal
import Derived.RangeFuncBox
import Derived.RangeFuncNested
import Derived.RangeFuncBound
import Derived.RangeFuncCalls
import Derived.RangeFuncLeaves
import Derived.RangeFuncGives
import Derived.RangeFuncKeeps
import Derived.Shelf.Abstract
import Derived.Shelf.RegionOpen
import Derived.WalkKit
import Derived.OwnWalkIn
import Derived.TacticsInMore
import Derived.LoopNIn
import Derived.LoopIn
import Derived.Sort.LoopGhostIn
import Derived.RangeFuncFrom
import Derived.RangeFuncWrites
import Derived.Deep.Cut
set_option maxRecDepth 100000
set_option linter.unusedVariables false
set_option linter.unusedSimpArgs false
set_option linter.unusedSectionVars false
section
namespace Go.Proofs.YtmhbpifhpolghaaGreat
open Go.RowKit Go.Lib Go.Tk Go.Shelf Go.Maps Go.Sort
section
variable {α : Type} [Inhabited α] {enc : α → List Value} {k : Nat}
theorem ownsRow_sortedK {w : World} {base g cap n : Nat} {e : TypeId} {m : Nat} {os : Array Obj} (hk : ∀ x, (enc x).length = k) (d' : Array α) (hn : d'.size = n) (xs : List Value)
    (h : w.ownsRow base e k (.slice (some ⟨g, 0, none⟩) n cap) n xs) : (sortWorldK enc k w g 0 m d' os).ownsRow base e k (.slice (some ⟨g, 0, none⟩) n cap) n (cellsL enc d'.toList) := by
  subst hn
  rcases h.2 with ⟨h0, _⟩ | ⟨g2, cap2, cur, heq, hbase, hgb, h1, h2, h3, h4⟩
  · cases h0
  · simp only [Value.slice.injEq, Option.some.injEq, Addr.mk.injEq, true_and, and_true] at heq
    obtain ⟨rfl, rfl⟩ := heq
    have hg : g < w.heap.size := (Array.getElem?_eq_some_iff.1 hgb).1
    have hl : (cellsL enc d'.toList).length = d'.size * k := flat_len hk d'
    have hcs : d'.size * k ≤ cur.size := by rw [h3]; exact Nat.mul_le_mul_right k h1
    refine ⟨hl, .inr ⟨g, cap, putCells id 0 (flatK enc k d') cur, rfl, hbase, ?_, h1, h2, by simp [putCells, h3], ?_⟩⟩
    · unfold sortWorldK putRowK
      rw [heap_grow_old _ _ (by simpa using hg)]
      simp [putRow, mapBlock, Sort.ahead, Array.getElem?_modify, hgb, onCells]
    · apply List.ext_getElem?
      intro j
      by_cases hj : j < d'.size * k
      · rw [List.getElem?_take_of_lt hj, Array.getElem?_toList]
        have e1 := flat_get hk d' j hj
        have e2 : (cellsL enc d'.toList)[j]? = some ((cellsL enc d'.toList).getD j undef) := by
          rw [List.getD_eq_getElem?_getD, List.getElem?_eq_getElem (by rw [hl]; exact hj)]; rfl
        rw [e2]
        show _ = some (((d'.toList.map enc).flatten).getD j undef)
        rw [e1]
        simp [putCells, hj, show j < cur.size by omega]
      · rw [List.getElem?_take_eq_none (by omega), List.getElem?_eq_none (by rw [hl]; omega)]
end
set_option maxHeartbeats 400000 in
theorem compareU_any (a b : Int) (w : World) : Calls Tryz.prog 87 #[.int .u64 a, .int .u64 b] w fun e w' => e = .returned (.int .i64 (cmpI a b)) ∧ w = w' := by
  have h63 : ∀ (x : Int) (w : World), Calls Tryz.prog 144 #[.int .u64 x] w fun e w' => e = .returned (.bool false) ∧ w = w' := by
    intro x w
    go_enter Tryz.func144, Tryz.ntmps144
    go_wp2
    go_ret
    exact ⟨rfl, rfl⟩
  have H := hid h63
  clear h63
  rcases Int.lt_trichotomy a b with h | rfl | h
  · have F : Hid (cmpI a b = -1) := by unfold Hid cmpI; rw [if_pos h]
    go_enter Tryz.func87, Tryz.ntmps87
    go_wp2_with (go_at_call 144; refine (H.out _ _).mono ?_; rintro e w' ⟨rfl, rfl⟩)
    go_ret
    exact ⟨ret_i (by rw [F.out]), rfl⟩
  · have F : Hid (cmpI a a = 0) := by unfold Hid cmpI; simp
    go_enter Tryz.func87, Tryz.ntmps87
    go_wp2_with (go_at_call 144; refine (H.out _ _).mono ?_; rintro e w' ⟨rfl, rfl⟩)
    go_ret
    exact ⟨ret_i (by rw [F.out]), rfl⟩
  · have F : Hid (cmpI a b = 1) := by unfold Hid cmpI; rw [if_neg (by omega), if_pos h]
    go_enter Tryz.func87, Tryz.ntmps87
    go_wp2_with (go_at_call 144; refine (H.out _ _).mono ?_; rintro e w' ⟨rfl, rfl⟩)
    go_ret
    exact ⟨ret_i (by rw [F.out]), rfl⟩
def encS (c : Int) (r : Int) : List Value := [.int .u8 c, .int .u64 r]
set_option maxHeartbeats 400000 in
theorem tickets1_any (c x y : Int) (w : World) :
    Calls Tryz.prog 86 #[.agg (encS c x).toArray, .agg (encS c y).toArray] w fun e w' => e = .returned (.int .i64 (cmpI x y)) ∧ (w.alloc (.cells (encS c x).toArray 39)).alloc (.cells (encS c y).toArray 39) = w' := by
  simp only [encS]
  go_enter Tryz.func86, Tryz.ntmps86
  go_wp2_with (go_at_call 87; refine (compareU_any _ _ _).mono ?_; rintro e w' ⟨rfl, rfl⟩)
  go_ret
  exact ⟨rfl, rfl⟩
theorem cmpT_lays (c : Int) (blk off size : Nat) (w : World) : CmpLays Tryz.prog 86 #[] (encS c) 2 cmpI blk off size w := by
  intro m os dk _ x y
  refine (tickets1_any c x y _).mono ?_
  rintro e w' ⟨rfl, rfl⟩
  refine ⟨rfl, 0, #[.cells (encS c x).toArray 39, .cells (encS c y).toArray 39], ?_⟩
  rfl
theorem ltI (x y : Int) : ltOf cmpI x y = decide (x < y) := by
  unfold ltOf cmpI
  by_cases h1 : x < y
  · simp [h1]
  · by_cases h2 : y < x <;> simp [h1, h2]
theorem swoI : SWO (ltOf cmpI) where
  irrefl x := by rw [ltI]; simp
  trans x y z h1 h2 := by rw [ltI] at *; simp at *; omega
  ntrans x y z h1 h2 := by rw [ltI] at *; simp at *; omega
theorem totI (x y : Int) (h1 : ltOf cmpI x y = false) (h2 : ltOf cmpI y x = false) : x = y := by
  rw [ltI] at h1 h2; simp at h1 h2; omega
end Go.Proofs.YtmhbpifhpolghaaGreat
end
section
namespace Go.Proofs.YtmhbpifhpolghaaGreat
open Go.RowKit Go.Lib Go.Tk Go.Shelf
def sortT_ren : Go.Shelf.Ren := ⟨fun | 6 => 142 | 15 => 152 | 28 => 194 | 29 => 195 | 47 => 231 | 48 => 232 | 14 => 183 | 20 => 214 | 21 => 215 | 22 => 216 | 23 => 217 | 24 => 218 | 25 => 219 | 26 => 220 | 27 => 221 | 46 => 240 | 49 => 241 | 50 => 242 | 57 => 249 | n => n, fun | 22 => 126 | 24 => 39 | 25 => 185 | 3 => 3 | 39 => 241 | 0 => 0 | 53 => 46 | 55 => 37 | 4 => 4 | 46 => 274 | 45 => 273 | 50 => 278 | 5 => 5 | 9 => 9 | 66 => 306 | 70 => 310 | 76 => 318 | 77 => 319 | n => n, fun n => n⟩
theorem sortT : SlLaysF0.n6 Tryz.prog sortT_ren where
  mixed := by kernel_rfl
  f6 := ⟨ "slices.SortFunc[[]tarmac/api.Ticket,tarmac/api.Ticket]", by decide, Tryz.func142.trans (congrArg some (by kernel_rfl))⟩
  f14 := ⟨ "slices.pdqsortCmpFunc[tarmac/api.Ticket]", by decide, Tryz.func183.trans (congrArg some (by kernel_rfl))⟩
  f15 := Tryz.func152.trans (congrArg some (by kernel_rfl))
  f20 := ⟨ "slices.insertionSortCmpFunc[tarmac/api.Ticket]", by decide, Tryz.func214.trans (congrArg some (by kernel_rfl))⟩
  f21 := ⟨ "slices.heapSortCmpFunc[tarmac/api.Ticket]", by decide, Tryz.func215.trans (congrArg some (by kernel_rfl))⟩
  f22 := ⟨ "slices.breakPatternsCmpFunc[tarmac/api.Ticket]", by decide, Tryz.func216.trans (congrArg some (by kernel_rfl))⟩
  f23 := ⟨ "slices.choosePivotCmpFunc[tarmac/api.Ticket]", by decide, Tryz.func217.trans (congrArg some (by kernel_rfl))⟩
  f24 := ⟨ "slices.reverseRangeCmpFunc[tarmac/api.Ticket]", by decide, Tryz.func218.trans (congrArg some (by kernel_rfl))⟩
  f25 := ⟨ "slices.partialInsertionSortCmpFunc[tarmac/api.Ticket]", by decide, Tryz.func219.trans (congrArg some (by kernel_rfl))⟩
  f26 := ⟨ "slices.partitionEqualCmpFunc[tarmac/api.Ticket]", by decide, Tryz.func220.trans (congrArg some (by kernel_rfl))⟩
  f27 := ⟨ "slices.partitionCmpFunc[tarmac/api.Ticket]", by decide, Tryz.func221.trans (congrArg some (by kernel_rfl))⟩
  f28 := Tryz.func194.trans (congrArg some (by kernel_rfl))
  f29 := Tryz.func195.trans (congrArg some (by kernel_rfl))
  f46 := ⟨ "slices.siftDownCmpFunc[tarmac/api.Ticket]", by decide, Tryz.func240.trans (congrArg some (by kernel_rfl))⟩
  f47 := Tryz.func231.trans (congrArg some (by kernel_rfl))
  f48 := Tryz.func232.trans (congrArg some (by kernel_rfl))
  f49 := ⟨ "slices.medianAdjacentCmpFunc[tarmac/api.Ticket]", by decide, Tryz.func241.trans (congrArg some (by kernel_rfl))⟩
  f50 := ⟨ "slices.medianCmpFunc[tarmac/api.Ticket]", by decide, Tryz.func242.trans (congrArg some (by kernel_rfl))⟩
  f57 := ⟨ "slices.order2CmpFunc[tarmac/api.Ticket]", by decide, Tryz.func249.trans (congrArg some (by kernel_rfl))⟩
  t0 := Tryz.underlying0
  a0 := Tryz.isAgg0
  z0 := Tryz.sizeOf0
  v0 := Tryz.zeroValue0
  t3 := Tryz.underlying3
  a3 := Tryz.isAgg3
  z3 := Tryz.sizeOf3
  v3 := Tryz.zeroValue3
  t4 := Tryz.underlying4
  a4 := Tryz.isAgg4
  z4 := Tryz.sizeOf4
  v4 := Tryz.zeroValue4
  t5 := Tryz.underlying5
  a5 := Tryz.isAgg5
  z5 := Tryz.sizeOf5
  v5 := Tryz.zeroValue5
  t9 := Tryz.underlying9
  a9 := Tryz.isAgg9
  z9 := Tryz.sizeOf9
  v9 := Tryz.zeroValue9
  t22 := Tryz.underlying126
  a22 := Tryz.isAgg126
  z22 := Tryz.sizeOf126
  v22 := Tryz.zeroValue126
  t25 := Tryz.underlying185
  a25 := Tryz.isAgg185
  z25 := Tryz.sizeOf185
  v25 := Tryz.zeroValue185
  t39 := Tryz.underlying241
  a39 := Tryz.isAgg241
  z39 := Tryz.sizeOf241
  v39 := Tryz.zeroValue241
  t45 := Tryz.underlying273
  a45 := Tryz.isAgg273
  z45 := Tryz.sizeOf273
  v45 := Tryz.zeroValue273
  t46 := Tryz.underlying274
  a46 := Tryz.isAgg274
  z46 := Tryz.sizeOf274
  v46 := Tryz.zeroValue274
  t50 := Tryz.underlying278
  a50 := Tryz.isAgg278
  z50 := Tryz.sizeOf278
  v50 := Tryz.zeroValue278
  t53 := Tryz.underlying46
  a53 := Tryz.isAgg46
  z53 := Tryz.sizeOf46
  v53 := Tryz.zeroValue46
  t55 := Tryz.underlying37
  a55 := Tryz.isAgg37
  z55 := Tryz.sizeOf37
  v55 := Tryz.zeroValue37
  t66 := Tryz.underlying306
  a66 := Tryz.isAgg306
  z66 := Tryz.sizeOf306
  v66 := Tryz.zeroValue306
  t70 := Tryz.underlying310
  a70 := Tryz.isAgg310
  z70 := Tryz.sizeOf310
  v70 := Tryz.zeroValue310
  t76 := Tryz.underlying318
  a76 := Tryz.isAgg318
  z76 := Tryz.sizeOf318
  v76 := Tryz.zeroValue318
  t77 := Tryz.underlying319
  a77 := Tryz.isAgg319
  z77 := Tryz.sizeOf319
  v77 := Tryz.zeroValue319
def sortK_ren : Go.Shelf.Ren := ⟨fun | 6 => 146 | 15 => 152 | 28 => 194 | 29 => 195 | 47 => 231 | 48 => 232 | 14 => 185 | 20 => 222 | 21 => 223 | 22 => 224 | 23 => 225 | 24 => 226 | 25 => 227 | 26 => 228 | 27 => 229 | 46 => 243 | 49 => 244 | 50 => 245 | 57 => 250 | n => n, fun | 22 => 133 | 24 => 44 | 25 => 192 | 3 => 3 | 39 => 241 | 0 => 0 | 53 => 46 | 55 => 37 | 4 => 4 | 46 => 274 | 45 => 273 | 50 => 278 | 5 => 5 | 9 => 9 | 66 => 306 | 70 => 310 | 76 => 318 | 77 => 319 | n => n, fun n => n⟩
theorem sortK : SlLaysF0.n6 Tryz.prog sortK_ren where
  mixed := by kernel_rfl
  f6 := ⟨ "slices.SortFunc[[]tarmac/api.Key,tarmac/api.Key]", by decide, Tryz.func146.trans (congrArg some (by kernel_rfl))⟩
  f14 := ⟨ "slices.pdqsortCmpFunc[tarmac/api.Key]", by decide, Tryz.func185.trans (congrArg some (by kernel_rfl))⟩
  f15 := Tryz.func152.trans (congrArg some (by kernel_rfl))
  f20 := ⟨ "slices.insertionSortCmpFunc[tarmac/api.Key]", by decide, Tryz.func222.trans (congrArg some (by kernel_rfl))⟩
  f21 := ⟨ "slices.heapSortCmpFunc[tarmac/api.Key]", by decide, Tryz.func223.trans (congrArg some (by kernel_rfl))⟩
  f22 := ⟨ "slices.breakPatternsCmpFunc[tarmac/api.Key]", by decide, Tryz.func224.trans (congrArg some (by kernel_rfl))⟩
  f23 := ⟨ "slices.choosePivotCmpFunc[tarmac/api.Key]", by decide, Tryz.func225.trans (congrArg some (by kernel_rfl))⟩
  f24 := ⟨ "slices.reverseRangeCmpFunc[tarmac/api.Key]", by decide, Tryz.func226.trans (congrArg some (by kernel_rfl))⟩
  f25 := ⟨ "slices.partialInsertionSortCmpFunc[tarmac/api.Key]", by decide, Tryz.func227.trans (congrArg some (by kernel_rfl))⟩
  f26 := ⟨ "slices.partitionEqualCmpFunc[tarmac/api.Key]", by decide, Tryz.func228.trans (congrArg some (by kernel_rfl))⟩
  f27 := ⟨ "slices.partitionCmpFunc[tarmac/api.Key]", by decide, Tryz.func229.trans (congrArg some (by kernel_rfl))⟩
  f28 := Tryz.func194.trans (congrArg some (by kernel_rfl))
  f29 := Tryz.func195.trans (congrArg some (by kernel_rfl))
  f46 := ⟨ "slices.siftDownCmpFunc[tarmac/api.Key]", by decide, Tryz.func243.trans (congrArg some (by kernel_rfl))⟩
  f47 := Tryz.func231.trans (congrArg some (by kernel_rfl))
  f48 := Tryz.func232.trans (congrArg some (by kernel_rfl))
  f49 := ⟨ "slices.medianAdjacentCmpFunc[tarmac/api.Key]", by decide, Tryz.func244.trans (congrArg some (by kernel_rfl))⟩
  f50 := ⟨ "slices.medianCmpFunc[tarmac/api.Key]", by decide, Tryz.func245.trans (congrArg some (by kernel_rfl))⟩
  f57 := ⟨ "slices.order2CmpFunc[tarmac/api.Key]", by decide, Tryz.func250.trans (congrArg some (by kernel_rfl))⟩
  t0 := Tryz.underlying0
  a0 := Tryz.isAgg0
  z0 := Tryz.sizeOf0
  v0 := Tryz.zeroValue0
  t3 := Tryz.underlying3
  a3 := Tryz.isAgg3
  z3 := Tryz.sizeOf3
  v3 := Tryz.zeroValue3
  t4 := Tryz.underlying4
  a4 := Tryz.isAgg4
  z4 := Tryz.sizeOf4
  v4 := Tryz.zeroValue4
  t5 := Tryz.underlying5
  a5 := Tryz.isAgg5
  z5 := Tryz.sizeOf5
  v5 := Tryz.zeroValue5
  t9 := Tryz.underlying9
  a9 := Tryz.isAgg9
  z9 := Tryz.sizeOf9
  v9 := Tryz.zeroValue9
  t22 := Tryz.underlying133
  a22 := Tryz.isAgg133
  z22 := Tryz.sizeOf133
  v22 := Tryz.zeroValue133
  t25 := Tryz.underlying192
  a25 := Tryz.isAgg192
  z25 := Tryz.sizeOf192
  v25 := Tryz.zeroValue192
  t39 := Tryz.underlying241
  a39 := Tryz.isAgg241
  z39 := Tryz.sizeOf241
  v39 := Tryz.zeroValue241
  t45 := Tryz.underlying273
  a45 := Tryz.isAgg273
  z45 := Tryz.sizeOf273
  v45 := Tryz.zeroValue273
  t46 := Tryz.underlying274
  a46 := Tryz.isAgg274
  z46 := Tryz.sizeOf274
  v46 := Tryz.zeroValue274
  t50 := Tryz.underlying278
  a50 := Tryz.isAgg278
  z50 := Tryz.sizeOf278
  v50 := Tryz.zeroValue278
  t53 := Tryz.underlying46
  a53 := Tryz.isAgg46
  z53 := Tryz.sizeOf46
  v53 := Tryz.zeroValue46
  t55 := Tryz.underlying37
  a55 := Tryz.isAgg37
  z55 := Tryz.sizeOf37
  v55 := Tryz.zeroValue37
  t66 := Tryz.underlying306
  a66 := Tryz.isAgg306
  z66 := Tryz.sizeOf306
  v66 := Tryz.zeroValue306
  t70 := Tryz.underlying310
  a70 := Tryz.isAgg310
  z70 := Tryz.sizeOf310
  v70 := Tryz.zeroValue310
  t76 := Tryz.underlying318
  a76 := Tryz.isAgg318
  z76 := Tryz.sizeOf318
  v76 := Tryz.zeroValue318
  t77 := Tryz.underlying319
  a77 := Tryz.isAgg319
  z77 := Tryz.sizeOf319
  v77 := Tryz.zeroValue319
end Go.Proofs.YtmhbpifhpolghaaGreat
end
section
namespace Go.Proofs.YtmhbpifhpolghaaGreat
open Go.RowKit Go.Lib Go.Tk Go.Shelf Go.Maps Go.Sort
section
variable {α : Type} [Inhabited α]
def sortBy (cf : α → α → Int) (l : List α) : List α := l.mergeSort fun x y => !(ltOf cf) y x
omit [Inhabited α] in
theorem sortBy_perm (cf : α → α → Int) (l : List α) : (sortBy cf l).Perm l := List.mergeSort_perm _ _
omit [Inhabited α] in
theorem sortBy_pair {cf : α → α → Int} (hS : SWO (ltOf cf)) (l : List α) : (sortBy cf l).Pairwise fun x y => (!(ltOf cf) y x) = true := by
  refine List.pairwise_mergeSort ?_ ?_ _
  · intro a b c h1 h2
    simp only [Bool.not_eq_true'] at h1 h2 ⊢
    exact hS.ntrans c b a h2 h1
  · intro a b
    cases h : ltOf cf b a with
    | false => simp
    | true => simp [hS.asymmA h]
omit [Inhabited α] in
theorem sortBy_eq {cf : α → α → Int} (hS : SWO (ltOf cf)) (hT : ∀ x y, (ltOf cf) x y = false → (ltOf cf) y x = false → x = y) {a b : List α} (h : a.Perm b) : sortBy cf a = sortBy cf b := by
  refine List.Perm.eq_of_pairwise (le := fun x y => (!(ltOf cf) y x) = true) ?_ (sortBy_pair hS a) (sortBy_pair hS b) (((sortBy_perm cf a).trans h).trans (sortBy_perm cf b).symm)
  intro a b _ _ h1 h2
  simp only [Bool.not_eq_true'] at h1 h2
  exact hT a b h2 h1
omit [Inhabited α] in
theorem sortBy_self {cf : α → α → Int} (hS : SWO (ltOf cf)) (hT : ∀ x y, (ltOf cf) x y = false → (ltOf cf) y x = false → x = y) {a : List α} (h : a.Pairwise fun x y => (!(ltOf cf) y x) = true) : sortBy cf a = a := by
  refine List.Perm.eq_of_pairwise (le := fun x y => (!(ltOf cf) y x) = true) ?_ (sortBy_pair hS a) h (sortBy_perm cf a)
  intro a b _ _ h1 h2
  simp only [Bool.not_eq_true'] at h1 h2
  exact hT a b h2 h1
end
theorem collectT_in (F : Fence) (n : Nat) (hF : F.fn 141) (hA : F.fn 182) (hro : F.round = none) (hn : 4 ≤ n) (gf : Nat) (lb : Array Value) (hFg : F.fn gf) (eg : ∀ args w, (callFunc gf args).run Tryz.prog w = .ok (.enter gf args) w)
    (S Sp : List Tid → Prop) (N : Nat) (hN : N ≤ 1000000000) (w w0 : World) (hb0 : Below w0.heap.size w0 w) (hseq : SeqStopsK F (n - 1 - 1) Tryz.prog gf lb encT KeepsWalks S Sp N w0) :
    CallsIn F n Tryz.prog 141 #[.func (.func gf) #[] lb] w fun e w' => ∃ v ss, e = .returned v ∧ S ss ∧ w'.ownsRow w.heap.size 39 2 v ss.length (cellsL tcL ss) ∧ (v = .slice none 0 0 ↔ ss = []) ∧ Below w.heap.size w w' := by
  have h1 : 1 ≤ n := by omega
  have cA := appendT_in F (n - 1) hA hro (by omega) gf lb hFg eg S Sp N hN w w0 hb0 hseq
  refine callsIn_of_wp Tryz.func141 rfl hF ?_ hro
  simp only [Tryz.ntmps141, List.size_toArray, List.length_cons, List.length_nil, Nat.reduceAdd, Nat.reduceSub, Array.replicate_succ, Array.replicate_zero, List.push_toArray, List.append_toArray, List.nil_append, List.cons_append]
  gi_wp2_with (gi_at_call 182; refine cA.mono ?_; rintro e w' ⟨v, ss, rfl, hS, hrow, hnil, hb⟩)
  go_ret
  exact ⟨v, ss, rfl, hS, hrow, hnil, hb⟩
def SortedFT : Nat := 84
def Tickets1 : Nat := 86
theorem cells_tid (c : Int) (rs : List Int) : cellsL tcL (rs.map (Tid.mk c)) = cellsL (encS c) rs := by
  unfold cellsL
  rw [List.map_map]
  rfl
theorem tid_back {c : Int} {rs : List Int} {ss : List Tid} (h : ss.Perm (rs.map (Tid.mk c))) : ss = (ss.map (·.r)).map (Tid.mk c) ∧ (ss.map (·.r)).Perm rs := by
  constructor
  · have : ∀ x ∈ ss, x.c = c := fun x hx => by
      obtain ⟨r, -, rfl⟩ := List.mem_map.1 (h.mem_iff.1 hx)
      rfl
    rw [List.map_map]
    conv => lhs; rw [← List.map_id ss]
    refine List.map_congr_left fun x hx => ?_
    have := this x hx
    obtain ⟨a, b⟩ := x
    cases this
    rfl
  · have := h.map (·.r)
    rw [List.map_map, show ((fun x : Tid => x.r) ∘ Tid.mk c) = id from rfl, List.map_id] at this
    exact this
set_option maxHeartbeats 4000000 in
theorem sortedT_any (Bn b : Nat) (L : List (Tid × Value)) (c : Int) (rs : List Int) (hL : L.map (·.1) = rs.map (Tid.mk c)) (w : World) (hm : MapAt tidK w b L) (hBn : w.cell? ⟨Bn, 0, none⟩ = some (.map (some b))) (hlen : L.length ≤ 1000000000) :
    Calls Tryz.prog SortedFT #[.func (.func KeysT1) #[] #[.pointer (some ⟨Bn, 0, none⟩)], .func (.func Tickets1) #[] #[]] w fun e w' => ∃ v, e = .returned v ∧ w'.ownsRow w.heap.size 39 2 v rs.length (cellsL tcL ((sortBy cmpI rs).map (Tid.mk c))) ∧ Below w.heap.size w w' := by
  refine (callsIn_wide (n := 8)).1 ?_
  have hbl : b < w.heap.size := hm.lt
  have hBl : Bn < w.heap.size := World.block_lt_of_cell? w _ hBn
  have hseq : SeqStopsK Fence.wide 5 Tryz.prog KeysT1 #[.pointer (some ⟨Bn, 0, none⟩)] encT KeepsWalks (fun ys => ys.Perm (L.map (·.1))) (fun pre => ∃ rest, (pre ++ rest).Perm (L.map (·.1))) L.length w := fun l J Jx W hW hJ hJx hY h0 =>
    keysT1_in Fence.wide 5 trivial rfl (by omega) l Bn b L J Jx W hJ (hm.same (hW.block b hbl)) ((hW.cell (p := ⟨Bn, 0, none⟩) hBl).trans hBn) hY h0
  have cC := collectT_in Fence.wide 7 trivial trivial rfl (by omega) KeysT1 #[.pointer (some ⟨Bn, 0, none⟩)] trivial (enters_of Tryz.func143 (by kernel_rfl) rfl) _ _ L.length hlen w w (Below.refl _ _) hseq
  have hfC : Fence.wide.fn 141 := trivial
  have hfS : Fence.wide.fn 142 := trivial
  have hLL : L.length = rs.length := by have := congrArg List.length hL; simpa using this
  rw [hL] at cC
  clear hseq hm hBn hL
  unfold SortedFT
  refine callsIn_of_wp Tryz.func84 rfl trivial ?_ rfl
  simp only [Tryz.ntmps84, List.size_toArray, List.length_cons, List.length_nil, Nat.reduceAdd, Nat.reduceSub, Array.replicate_succ, Array.replicate_zero, List.push_toArray, List.append_toArray, List.nil_append, List.cons_append]
  gi_wp2_with (gi_at_call 141; refine cC.mono ?_; rintro e W ⟨v, ss, rfl, hS, hrow, hnil, hb⟩)
  obtain ⟨hss, hpm⟩ := tid_back hS
  obtain ⟨d, hd⟩ : ∃ d, d = ss.map (·.r) := ⟨_, rfl⟩
  rw [← hd] at hss hpm
  have hsort : sortBy cmpI d = sortBy cmpI rs := sortBy_eq swoI totI hpm
  have hdl : d.length = rs.length := hpm.length_eq
  have hsl : ss.length = rs.length := by rw [hss, List.length_map, hdl]
  rw [hsl, hss, cells_tid] at hrow
  have HD := hid hd
  clear hss hd
  rcases hrow.2 with ⟨rfl, hz⟩ | ⟨gb, cap, cur, rfl, hbase, hgb, r1, r2, r3, r4⟩
  · have hrs : rs = [] := List.eq_nil_of_length_eq_zero hz
    subst hrs
    have cN : CallsIn Fence.wide 7 Tryz.prog 142 #[.slice none 0 0, .func (.func Tickets1) #[] #[]] W fun e w' => e = .returned (.tuple #[]) ∧ w' = W := callsIn_wide.2 (AnyF.slices_SortFunc_none sortT none 0 _ W)
    gi_wp2_with (gi_at_call 142; refine cN.mono ?_; rintro e w' ⟨rfl, rfl⟩)
    go_ret
    refine ⟨_, rfl, ?_, hb⟩
    have hdn : d = [] := List.eq_nil_of_length_eq_zero hdl
    rw [cells_tid, ← hsort, HD.out]
    rw [HD.out] at hdn
    have e0 : sortBy cmpI (ss.map (·.r)) = [] := by
      have := (sortBy_perm cmpI (ss.map (·.r))).length_eq
      rw [hdn] at this ⊢
      exact List.eq_nil_of_length_eq_zero this
    rw [e0]
    rw [HD.out, hdn] at hrow
    exact hrow
  · have hda : d.toArray.size = rs.length := by simpa using hdl
    have hH : HoldsK (encS c) 2 W gb 0 d.toArray := holdsK_of_owns (enc := encS c) (k := 2) (fun _ => rfl) d.toArray hda hrow
    have hgl : gb < W.heap.size := (Array.getElem?_eq_some_iff.1 hgb).1
    have cS : CallsIn Fence.wide 7 Tryz.prog 142 #[.slice (some ⟨gb, 0, none⟩) d.toArray.size cap, .func (.func Tickets1) #[] #[]] W fun e w' => e = .returned (.tuple #[]) ∧ ∃ n os, w' = sortWorldK (encS c) 2 W gb 0 n (sortBy cmpI d).toArray os :=
      callsIn_wide.2 (AnyQ.slices_SortFunc_total sortT 2 Tryz.isAgg39 Tryz.sizeOf39 (encS c) (fun _ => rfl) (fun x v hv => by simp [encS] at hv; rcases hv with rfl | rfl <;> rfl) cmpI swoI Tickets1 #[] gb 0 cap d.toArray W (enters_of Tryz.func86 (by kernel_rfl) rfl) (cmpT_lays c gb 0 _ W) hH hgl (by rw [hda]; omega) totI)
    rw [hda] at cS
    gi_wp2_with (gi_at_call 142; refine cS.mono ?_; rintro e w' ⟨rfl, nn, os, rfl⟩)
    go_ret
    refine ⟨_, rfl, ?_, ?_⟩
    · have := ownsRow_sortedK (m := nn) (os := os) (enc := encS c) (fun _ => rfl) (sortBy cmpI d).toArray (by have := (sortBy_perm cmpI d).length_eq; simpa [hdl] using this) _ hrow
      rw [cells_tid, ← hsort]
      exact this
    · exact hb.grown (swk_grown ⟨nn, os, rfl⟩) hb.size (fun j hj => by cases hj; exact hbase)
end Go.Proofs.YtmhbpifhpolghaaGreat
end
section
namespace Go.Proofs.YtmhbpifhpolghaaGreat
open Go.RowKit Go.Lib Go.Tk Go.Shelf Go.Maps
attribute [local go_sem] Oper.semAt_some
def KeysK1 : Nat := 147
abbrev encKy (x : Kid) : Array Value := #[kidV x]
set_option maxHeartbeats 4000000 in
theorem keysK1_in (F : Fence) (n : Nat) (hF : F.fn KeysK1) (hro : F.round = none) (hn : 1 ≤ n) (l Bn b : Nat) (L : List (Kid × Value)) (J Jx : List Kid → World → Prop) (W : World) (hA : AbidesFrom W.heap.size J)
    (hm : MapAt kidK W b L) (hBn : W.cell? ⟨Bn, 0, none⟩ = some (.map (some b)))
    (hY : ∀ pre x W1, J pre W1 → pre.length < L.length → YieldAt F (n - 1) Tryz.prog l (encKy x) W1 fun e W' =>
      (e = .returned (.bool true) ∧ J (pre ++ [x]) W' ∧ KeepsWalks W1 W') ∨ (e = .returned (.bool false) ∧ Jx (pre ++ [x]) W')) (h0 : J [] W) :
    CallsIn F n Tryz.prog KeysK1 #[.func (.yield l) #[] #[], .pointer (some ⟨Bn, 0, none⟩)] W fun e W' => (∃ v, e = .returned v) ∧
      ((∃ ys, ys.Perm (L.map (·.1)) ∧ J ys W') ∨ (∃ pre, (∃ rest, (pre ++ rest).Perm (L.map (·.1))) ∧ Jx pre W')) := by
  have HY := hid hY
  have HA := hid hA
  have hsz : Aside (∀ x : Nat, x = W.heap.size → x = W.heap.size) := fun _ e => e
  clear hY hA
  refine callsIn_of_wp Tryz.func147 rfl hF ?_ hro
  simp only [Tryz.ntmps147, List.size_toArray, List.length_cons, List.length_nil, Nat.reduceAdd, Nat.reduceSub, Array.replicate_succ, Array.replicate_zero, List.push_toArray, List.append_toArray, List.nil_append, List.cons_append]
  gi_wp2_with (first
    | (gi_at_range; refine wpListIn_range_mapA rfl _ 108 rfl Tryz.underlying108 rfl hm ?_; intro w1 hrg hb1)
    | gi_in)
  go_frame
  have hJ1 := HA.out [] W w1 none h0 (grown_of_below hb1) (fun r e => by cases e)
  have Hrg := hid hrg
  have HB1 := hid hb1.size
  clear hrg hb1 hm hBn h0
  gi_loopg [] L.length (fun k wr => ∃ (done : List Kid) (left : List (Kid × Value)), k = left.length ∧ Hid (Ranging kidK wr W.heap.size b L left) ∧ Hid ((done ++ left.map (·.1)).Perm (L.map (·.1))) ∧ J done wr ∧ Hid (W.heap.size ≤ wr.heap.size))
  case atStart => exact ⟨[], L, rfl, Hrg, (by rw [List.nil_append]; exact List.Perm.refl _), hJ1, HB1⟩
  case round =>
    obtain ⟨done, left, rfl, hr, hp, hj, hs⟩ := hrel
    gi_wp2_with (first
      | (gi_at_next; refine wpListIn_next_mapA rfl _ rfl rfl hr.out ?_ ?_)
      | gi_in)
    · intro hnil
      subst hnil
      have hp' : done.Perm (L.map (·.1)) := by have := hp.out; simpa using this
      gi_wp2
      go_end0
      exact ⟨⟨_, rfl⟩, .inl ⟨done, hp', hj⟩⟩
    · intro pk pv left' w2 hpl hmem hr2 hg hen
      have hr2' := hid hr2
      have hj2 := HA.out done wr w2 (some W.heap.size) hj hg (fun r e => by cases e; exact ⟨Nat.le_refl _, by
        obtain ⟨es, clock, since, seen, -, h1, -⟩ := hr.out
        exact ⟨_, h1, rfl⟩⟩)
      have hlen := hpl.length_eq
      simp only [List.length_cons] at hlen
      have hp2 : (done ++ [pk] ++ left'.map (·.1)).Perm (L.map (·.1)) := by
        refine List.Perm.trans ?_ hp.out
        rw [List.append_assoc]
        have hq : (pk :: left'.map (fun p : Kid × Value => p.1)).Perm (left.map (fun p : Kid × Value => p.1)) := (List.Perm.map (fun p : Kid × Value => p.1) hpl).symm
        exact List.Perm.append_left done hq
      have hs2 : W.heap.size ≤ w2.heap.size := Nat.le_trans hs.out hg.size
      have hdl : done.length < L.length := by
        have := hp2.length_eq
        simp only [List.length_append, List.length_cons, List.length_nil, List.length_map] at this
        omega
      have HP2 := hid hp2
      have HS2 := hid hs2
      have HLE := hid hlen
      obtain ⟨w3, hw3⟩ : ∃ w3, w2.alloc (.cells #[.int .u8 pk.t.c, .int .u64 pk.t.r, .int .u8 pk.i] 44) = w3 := ⟨_, rfl⟩
      have hb3 : Below w2.heap.size w2 w3 := by rw [← hw3]; exact (Below.refl w2.heap.size w2).alloc (Nat.le_refl _) _
      have hj3 := HA.out done w2 w3 none hj2 (grown_of_below hb3) (fun r e => by cases e)
      have hr3 := hid (hr2.of_walks (KeepsWalks.alloc w2 (.cells #[.int .u8 pk.t.c, .int .u64 pk.t.r, .int .u8 pk.i] 44)))
      rw [hw3] at hr3
      have hB3 : w3.heap[w2.heap.size]? = some (.cells #[.int .u8 pk.t.c, .int .u64 pk.t.r, .int .u8 pk.i] 44 (0, 0)) := by rw [← hw3]; exact World.alloc_heap_new w2 _
      have hcA : w3.cell? ⟨w2.heap.size, 0, none⟩ = some (.int .u8 pk.t.c) := by simp [World.cell?, hB3]
      have hcB : w3.cell? ⟨w2.heap.size, 1, none⟩ = some (.int .u64 pk.t.r) := by simp [World.cell?, hB3]
      have hcC : w3.cell? ⟨w2.heap.size, 2, none⟩ = some (.int .u8 pk.i) := by simp [World.cell?, hB3]
      have hs3 := hid (Nat.le_trans hs2 hb3.size)
      have HP2 := hid hp2
      have HLE := hid hlen
      clear hp hr hj hs hpl hmem hg hp2 hs2 hlen hr2 hr2' hj2 hb3 hB3
      obtain ⟨fn, tmps, assign, body, hy, hR⟩ := HY.out done pk w3 hj3 hdl
      simp only [encKy, show kidV pk = .agg #[.int .u8 pk.t.c, .int .u64 pk.t.r, .int .u8 pk.i] from rfl] at hy
      simp only [show kidK.kv pk = .agg #[.int .u8 pk.t.c, .int .u64 pk.t.r, .int .u8 pk.i] from rfl] at hen ⊢
      gi_wp2
      refine hR.mono ?_
      rintro e W3 (⟨rfl, hJ3, hk3⟩ | ⟨rfl, hJx3⟩)
      · have hr4 := hid (hr3.out.of_walks hk3)
        have hs4 := hid (Nat.le_trans hs3.out hk3.1)
        have hle : left'.length < left.length := by have := HLE.out; omega
        gi_wp2
        gi_roundg left'.length
        case rel => exact ⟨done ++ [pk], left', rfl, hr4, HP2, hJ3, hs4⟩
        case measure => exact hle
      · gi_wp2
        refine bodyPost_ret (results_none rfl _ _ _) rfl ?_
        exact ⟨⟨_, rfl⟩, .inr ⟨done ++ [pk], ⟨_, HP2.out⟩, hJx3⟩⟩
end Go.Proofs.YtmhbpifhpolghaaGreat
end
section
namespace Go.Proofs.YtmhbpifhpolghaaGreat
open Go.RowKit Go.Lib Go.Tk Go.Shelf Go.Maps
attribute [local go_sem] Oper.semAt_some
attribute [-go_sem] loadCellsFrom
def kcL (x : Kid) : List Value := [.int .u8 x.t.c, .int .u64 x.t.r, .int .u8 x.i]
theorem kkrow : (Tryz.prog.info? 44).map (fun i => (i.zero, i.size, i.bytes)) = some (some (.agg #[.int .u8 0, .int .u64 0, .int .u8 0]), 3, 24) := by kernel_rfl
def kBox (W : World) (B : Nat) (x : Kid) : Prop := W.heap[B]? = some (.cells #[.int .u8 x.t.c, .int .u64 x.t.r, .int .u8 x.i] 44 (0, 0))
theorem kBox.kept {W W' : World} {row : Option Nat} {B : Nat} {x : Kid} (h : kBox W B x) (hg : W.grownBy W' row) (hr : ∀ r, row = some r → ∃ o : Obj, W.heap[r]? = some o ∧ o.isCells = false) : kBox W' B x :=
  (hg.block B (Array.getElem?_eq_some_iff.1 h).1 (fun e => by
    obtain ⟨o, ho, hc⟩ := hr B e.symm
    rw [show W.heap[B]? = _ from h] at ho
    cases ho
    cases hc)).trans h
set_option maxHeartbeats 8000000 in
theorem appendK_in (F : Fence) (n : Nat) (hF : F.fn 184) (hro : F.round = none) (hn : 3 ≤ n) (gf : Nat) (lb : Array Value) (hFg : F.fn gf) (eg : ∀ args w, (callFunc gf args).run Tryz.prog w = .ok (.enter gf args) w)
    (S Sp : List Kid → Prop) (N : Nat) (hN : N ≤ 1000000000) (w w0 : World) (hb0 : Below w0.heap.size w0 w) (hseq : SeqStopsK F (n - 1) Tryz.prog gf lb encKy KeepsWalks S Sp N w0) :
    CallsIn F n Tryz.prog 184 #[.slice none 0 0, .func (.func gf) #[] lb] w fun e w' => ∃ v ss, e = .returned v ∧ S ss ∧ w'.ownsRow w.heap.size 44 3 v ss.length (cellsL kcL ss) ∧ (v = .slice none 0 0 ↔ ss = []) ∧ Below w.heap.size w w' := by
  have h1 : 1 ≤ n := by omega
  refine callsIn_of_wp_marks Tryz.func184 rfl hF ?_ hro
  simp only [Tryz.ntmps184, List.size_toArray, List.length_cons, List.length_nil, Nat.reduceAdd, Nat.reduceSub, Array.replicate_succ, Array.replicate_zero, List.push_toArray, List.append_toArray, List.nil_append, List.cons_append]
  gi_wp2
  have bO := Boxed.new w 133 (.slice none 0 0)
  have hB0 : Below w.heap.size w (w.alloc (.cells #[.slice none 0 0] 133)) := (Below.refl _ w).alloc (Nat.le_refl _) _
  have hI1 := Own.from (holdsRow_own w.heap.size w.heap.size 133 44 3 (fun pre : List Kid => pre.length) (fun pre => cellsL kcL pre) (fun pre v => v = .slice none 0 0 ↔ pre = [])) (w.alloc (.cells #[.slice none 0 0] 133)).heap.size
  have hI2 : OwnFrom (w.alloc (.cells #[.slice none 0 0] 133)).heap.size (fun (_ : List Kid) W => Below w.heap.size w W) := ownFrom_below (Nat.le_refl _) (by simp)
  refine wpIn_rangeFunc_ownH hro h1 (gf := gf) (lb := lb) rfl hFg eg hseq (fun h k => walksK_t h k) (fun W l o o' h1 h2 h3 h4 => walksK_b (w := w.alloc (.cells #[.slice none 0 0] 133)) W l o o' h1 h2 h3 h4) (hb0.trans (hB0.mono hb0.size)) (fun _ => rfl)
    (fun pre W => (∃ v, Boxed W w.heap.size 133 v ∧ W.ownsRow w.heap.size 44 3 v pre.length (cellsL kcL pre) ∧ (v = .slice none 0 0 ↔ pre = [])) ∧ Below w.heap.size w W)
    (fun _ _ _ => False)
    (OwnFrom.and hI1 hI2)
    (fun _ _ _ _ _ hs _ _ => hs)
    ⟨⟨_, bO, World.ownsRow_nil _ _ _ _, by simp⟩, hB0⟩
    (fun x a' W => ∃ B, kBox W B x ∧ a' = { tmps := #[.slice none 0 0, .func (.func gf) #[] lb, .pointer (some ⟨w.heap.size, 0, none⟩), undef, .slice none 0 0, .pointer (some ⟨B, 0, none⟩), .func (.func gf) #[] lb, kidV x, undef, undef, undef, undef, undef], defers := [] })
    (fun x a' => Own.from (fun _ _ _ _ hs hg hr => by obtain ⟨B, h1, h2⟩ := hs; exact ⟨B, h1.kept hg hr, h2⟩) _) ?assign ?body ?done ?stop
  case assign =>
    intro l pre x W K hI hK
    simp only [encKy, show kidV x = .agg #[.int .u8 x.t.c, .int .u64 x.t.r, .int .u8 x.i] from rfl]
    gi_wp2
    obtain ⟨⟨v, hv, hrow, hn⟩, hB⟩ := hI
    exact hK _ _ ((KeepsOthers.alloc W _).from _) (KeepsWalks.alloc W _) ⟨⟨v, hv.alloc _, World.ownsRow.alloc hrow _, hn⟩, hB.alloc hB.size _⟩ ⟨W.heap.size, World.alloc_heap_new W _, rfl⟩
  case stop =>
    rintro D c pre W _ _ h _
    exact h.elim
  case done =>
    rintro D ys W hD hS ⟨⟨v, hv, hrow, hn⟩, hB⟩ hK
    have hc := hv.cell
    gi_wp2
    refine ⟨by simp, .inl ⟨_, _, rfl, run_takeDeferred hK, ?_⟩⟩
    exact ⟨_, results_tmp rfl _ _ _, v, ys, rfl, hS, ownsRow_putObj hrow _ hK rfl, hn, hB.grown (grownBy_putObj' W D _) hB.size (fun k e => by cases e; simp at hD; omega)⟩
  case body =>
    rintro l pre x a' W hl hlo ⟨⟨v, hv, hrow, hn⟩, hB⟩ ⟨B, hbx, rfl⟩ hlt
    have hc0 := hv.cell
    have hf0 := hv.frozen
    have cA : W.cell? ⟨B, 0, none⟩ = some (.int .u8 x.t.c) := by simp [World.cell?, show W.heap[B]? = _ from hbx]
    have cB : W.cell? ⟨B, 1, none⟩ = some (.int .u64 x.t.r) := by simp [World.cell?, show W.heap[B]? = _ from hbx]
    have cC : W.cell? ⟨B, 2, none⟩ = some (.int .u8 x.i) := by simp [World.cell?, show W.heap[B]? = _ from hbx]
    have ld : Sem.run Tryz.prog (loadCellsFrom ⟨B, 0, none⟩ 0 3 #[]) W = .ok #[.int .u8 x.t.c, .int .u64 x.t.r, .int .u8 x.i] W := run_loadCellsFrom_list Tryz.prog W ⟨B, 0, none⟩ (kcL x) 3 rfl (fun i u hi => by
      rcases i with _ | _ | _ | i
      · exact cA.trans hi
      · exact cB.trans hi
      · exact cC.trans hi
      · cases hi)
    obtain ⟨i0, hi, hz0, hz1, hz2⟩ := info_parts kkrow
    obtain ⟨va, vc, rfl, -, -, -⟩ := own_slice hrow
    have hsz : w.heap.size ≤ W.heap.size := hB.size
    have hone : ∀ v ∈ kcL x, v.oneCell' = true := by intro v hv; simp [kcL] at hv; rcases hv with rfl | rfl | rfl <;> rfl
    have hcl : ∀ (j : Nat) (u : Value), (kcL x)[j]? = some u → (W.alloc (.cells #[.int .u8 x.t.c, .int .u64 x.t.r, .int .u8 x.i] 44)).cell? ((Addr.mk W.heap.size 0 none).add j) = some u := fun i u hi => by
        rcases i with _ | _ | _ | i
        · exact (cell_new (w := W) (b := W.heap.size) rfl).trans hi
        · exact (cell_new (w := W) (b := W.heap.size) rfl).trans hi
        · exact (cell_new (w := W) (b := W.heap.size) rfl).trans hi
        · cases hi
    gi_wp2_with (first
      | (gi_at_builtin; refine wpListIn_append_own _ rfl _ _ 133 rfl w.heap.size 44 i0 _ 3 24 Tryz.underlying133 hi hz0 hz1 hz2 rfl (by decide) _ _ _ rfl (World.ownsRow.alloc hrow _) ⟨W.heap.size, 0, none⟩ 1 1 (kcL x) rfl rfl hcl hone (by unfold maxLen; omega) (by omega) (by simp; omega) ?_
         intro v' w' hown' hgrow' hnil'
         obtain ⟨g', cap', rfl⟩ := ownsRow_succ hown'
         obtain ⟨hv1, hv2, hr2, hkk, hbb⟩ := hv.appended (n₀ := w.heap.size) (by decide) hrow hsz (Nat.le_refl _) hown' hgrow'
         have q1 := hv1.cell
         have q2 := hv1.frozen
         go_frame)
      | gi_in)
    refine ⟨hkk.from _, hkk.walks, ⟨_, hv2, ?_, by simp⟩, hB.trans hbb⟩
    rw [List.length_append, cellsL_snoc]
    exact hr2
end Go.Proofs.YtmhbpifhpolghaaGreat
end
section
namespace Go.Proofs.YtmhbpifhpolghaaGreat
open Go.RowKit Go.Lib Go.Tk Go.Shelf Go.Maps Go.Sort
set_option maxHeartbeats 400000 in
theorem compareB_any (a b : Int) (w : World) : Calls Tryz.prog 92 #[.int .u8 a, .int .u8 b] w fun e w' => e = .returned (.int .i64 (cmpI a b)) ∧ w = w' := by
  have h63 : ∀ (x : Int) (w : World), Calls Tryz.prog 148 #[.int .u8 x] w fun e w' => e = .returned (.bool false) ∧ w = w' := by
    intro x w
    go_enter Tryz.func148, Tryz.ntmps148
    go_wp2
    go_ret
    exact ⟨rfl, rfl⟩
  have H := hid h63
  clear h63
  rcases Int.lt_trichotomy a b with h | rfl | h
  · have F : Hid (cmpI a b = -1) := by unfold Hid cmpI; rw [if_pos h]
    go_enter Tryz.func92, Tryz.ntmps92
    go_wp2_with (go_at_call 148; refine (H.out _ _).mono ?_; rintro e w' ⟨rfl, rfl⟩)
    go_ret
    exact ⟨ret_i (by rw [F.out]), rfl⟩
  · have F : Hid (cmpI a a = 0) := by unfold Hid cmpI; simp
    go_enter Tryz.func92, Tryz.ntmps92
    go_wp2_with (go_at_call 148; refine (H.out _ _).mono ?_; rintro e w' ⟨rfl, rfl⟩)
    go_ret
    exact ⟨ret_i (by rw [F.out]), rfl⟩
  · have F : Hid (cmpI a b = 1) := by unfold Hid cmpI; rw [if_neg (by omega), if_pos h]
    go_enter Tryz.func92, Tryz.ntmps92
    go_wp2_with (go_at_call 148; refine (H.out _ _).mono ?_; rintro e w' ⟨rfl, rfl⟩)
    go_ret
    exact ⟨ret_i (by rw [F.out]), rfl⟩
def orI (a b c : Int) : Int := if a = 0 then (if b = 0 then c else b) else a
set_option maxHeartbeats 2000000 in
theorem or_any (B : Nat) (a b c : Int) (w : World) (h0 : w.cell? ⟨B, 0, none⟩ = some (.int .i64 a)) (h1 : w.cell? ⟨B, 1, none⟩ = some (.int .i64 b)) (h2 : w.cell? ⟨B, 2, none⟩ = some (.int .i64 c)) :
    Calls Tryz.prog 91 #[.slice (some ⟨B, 0, none⟩) 3 3] w fun e w' => e = .returned (.int .i64 (orI a b c)) ∧ w = w' := by
  by_cases ha : a = 0
  · by_cases hb : b = 0
    · by_cases hc : c = 0
      · have E : Hid (orI a b c = 0) := by unfold Hid orI; rw [if_pos ha, if_pos hb]; exact hc
        subst ha hb hc
        go_enter Tryz.func91, Tryz.ntmps91
        go_wp2
        refine wp_loop_rounds 4 ?_
        iterate 4 (rw [rounds_succ]; go_wp2)
        go_ret
        exact ⟨ret_i (by rw [E.out]), rfl⟩
      · have E : Hid (orI a b c = c) := by unfold Hid orI; rw [if_pos ha, if_pos hb]
        subst ha hb
        go_enter Tryz.func91, Tryz.ntmps91
        go_wp2
        refine wp_loop_rounds 4 ?_
        iterate 3 (rw [rounds_succ]; go_wp2)
        go_ret
        exact ⟨ret_i (by rw [E.out]), rfl⟩
    · have E : Hid (orI a b c = b) := by unfold Hid orI; rw [if_pos ha, if_neg hb]
      subst ha
      go_enter Tryz.func91, Tryz.ntmps91
      go_wp2
      refine wp_loop_rounds 4 ?_
      iterate 2 (rw [rounds_succ]; go_wp2)
      go_ret
      exact ⟨ret_i (by rw [E.out]), rfl⟩
  · have E : Hid (orI a b c = a) := by unfold Hid orI; rw [if_neg ha]
    go_enter Tryz.func91, Tryz.ntmps91
    go_wp2
    refine wp_loop_rounds 4 ?_
    rw [rounds_succ]; go_wp2
    go_ret
    exact ⟨ret_i (by rw [E.out]), rfl⟩
def cfK (x y : Kid) : Int := orI (cmpI x.t.c y.t.c) (cmpI x.t.r y.t.r) (cmpI x.i y.i)
set_option maxHeartbeats 8000000 in
theorem keys1_any (x y : Kid) (w : World) : Calls Tryz.prog 90 #[.agg (kcL x).toArray, .agg (kcL y).toArray] w fun e w' => e = .returned (.int .i64 (cfK x y)) ∧ ∃ q os', w' = grow (w.drewN q) os' := by
  obtain ⟨⟨xc, xr⟩, xi⟩ := x
  obtain ⟨⟨yc, yr⟩, yi⟩ := y
  simp only [kcL, cfK]
  have hmx : Tryz.prog.follows .mixedOrders = true := by kernel_rfl
  go_enter Tryz.func90, Tryz.ntmps90
  go_upto_region 1 with fail
  obtain ⟨W1, hW1⟩ : ∃ W1, W1 = ((w.alloc (.cells #[.int .u8 xc, .int .u64 xr, .int .u8 xi] 44)).alloc (.cells #[.int .u8 yc, .int .u64 yr, .int .u8 yi] 44)).drew := ⟨_, rfl⟩
  obtain ⟨W2, hW2⟩ : ∃ W2, W2 = W1.alloc (.cells #[.int .i64 (cmpI xc yc), .int .i64 (cmpI xr yr), .int .i64 (cmpI xi yi)] 3) := ⟨_, rfl⟩
  have x1 : Box W1 w.heap.size #[.int .u8 xc, .int .u64 xr, .int .u8 xi] := by rw [hW1]; exact ((Box.new (w := w) rfl).kept (below_alloc _ _)).kept (Below.refl _ _).drew
  have x2 : Box W1 (w.heap.size + 1) #[.int .u8 yc, .int .u64 yr, .int .u8 yi] := by
    rw [hW1]
    have h0 : Box ((w.alloc (.cells #[.int .u8 xc, .int .u64 xr, .int .u8 xi] 44)).alloc (.cells #[.int .u8 yc, .int .u64 yr, .int .u8 yi] 44)) (w.alloc (.cells #[.int .u8 xc, .int .u64 xr, .int .u8 xi] 44)).heap.size #[.int .u8 yc, .int .u64 yr, .int .u8 yi] := Box.new rfl
    rw [World.size_alloc] at h0
    exact h0.kept (Below.refl _ _).drew
  have k7 : W1.cell? ⟨w.heap.size, 0, none⟩ = some (.int .u8 xc) := x1.cell 0 rfl
  have k14 : W1.cell? ⟨w.heap.size, 1, none⟩ = some (.int .u64 xr) := x1.cell 1 rfl
  have k20 : W1.cell? ⟨w.heap.size, 2, none⟩ = some (.int .u8 xi) := x1.cell 2 rfl
  have k10 : W1.cell? ⟨w.heap.size + 1, 0, none⟩ = some (.int .u8 yc) := x2.cell 0 rfl
  have k17 : W1.cell? ⟨w.heap.size + 1, 1, none⟩ = some (.int .u64 yr) := x2.cell 1 rfl
  have k22 : W1.cell? ⟨w.heap.size + 1, 2, none⟩ = some (.int .u8 yi) := x2.cell 2 rfl
  have x3 : Box W2 W1.heap.size #[.int .i64 (cmpI xc yc), .int .i64 (cmpI xr yr), .int .i64 (cmpI xi yi)] := by rw [hW2]; exact Box.new rfl
  have q0 : W2.cell? ⟨W1.heap.size, 0, none⟩ = some (.int .i64 (cmpI xc yc)) := x3.cell 0 rfl
  have q1 : W2.cell? ⟨W1.heap.size, 1, none⟩ = some (.int .i64 (cmpI xr yr)) := x3.cell 1 rfl
  have q2 : W2.cell? ⟨W1.heap.size, 2, none⟩ = some (.int .i64 (cmpI xi yi)) := x3.cell 2 rfl
  have HW1 := hid hW1
  have HW2 := hid hW2
  clear hW1 hW2 x1 x2 x3
  refine wp_region_vals (fun zz => (#[.pointer (some ⟨w.heap.size, 0, none⟩), .pointer (some ⟨w.heap.size, 0, none⟩), .int .u8 xc, .pointer (some ⟨(w.heap.size + 1), 0, none⟩), .pointer (some ⟨(w.heap.size + 1), 0, none⟩), .int .u8 yc, .int .i64 (cmpI xc yc), .pointer (some ⟨w.heap.size, 0, none⟩), .pointer (some ⟨w.heap.size, 1, none⟩), .int .u64 xr, .pointer (some ⟨(w.heap.size + 1), 0, none⟩), .pointer (some ⟨(w.heap.size + 1), 1, none⟩), .int .u64 yr, .int .i64 (cmpI xr yr), .pointer (some ⟨w.heap.size, 2, none⟩), .int .u8 xi, .pointer (some ⟨(w.heap.size + 1), 2, none⟩), .int .u8 yi, .int .i64 (cmpI xi yi), .slice (some ⟨W1.heap.size, 0, none⟩) 3 3, .int .i64 (orI (cmpI xc yc) (cmpI xr yr) (cmpI xi yi)), .int .i64 (orI (cmpI xc yc) (cmpI xr yr) (cmpI xi yi))] : Array Value).getD zz undef) (fun k wx => wx = (match k with | 0 => W1 | _ => W2)) [19] [[], [0], [0, 1], [], [3], [3, 4], [0, 1, 2, 3, 4, 5], [], [7], [7, 8], [], [10], [10, 11], [7, 8, 9, 10, 11, 12], [], [14], [], [16], [14, 15, 16, 17], [0, 1, 2, 3, 4, 5, 6, 7, 8, 9, 10, 11, 12, 13, 14, 15, 16, 17, 18], [0, 1, 2, 3, 4, 5, 6, 7, 8, 9, 10, 11, 12, 13, 14, 15, 16, 17, 18, 19], [0, 1, 2, 3, 4, 5, 6, 7, 8, 9, 10, 11, 12, 13, 14, 15, 16, 17, 18, 19, 20]] [0, 0, 0, 0, 0, 0, 0, 0, 0, 0, 0, 0, 0, 0, 0, 0, 0, 0, 0, 0, 1, 1] [0, 0, 0, 0, 0, 0, 0, 0, 0, 0, 0, 0, 0, 0, 0, 0, 0, 0, 0, 0, 1, 1] hmx (by kernel_rfl) (by kernel_rfl) (by kernel_rfl) HW1.out.symm ?_ ?_
  · intro ρ hc hg hf hd ho
    refine ⟨?_, ?_, ?_, ?_, ?_, ?_, ?_, ?_, ?_, ?_, ?_, ?_, ?_, ?_, ?_, ?_, ?_, ?_, ?_, ?_, ?_, ?_, trivial⟩
    · intro zk wx hl hh _ hO -- 0: fieldAddr 26 t2 0
      have e2 : ρ (.tmp 2) = .pointer (some ⟨w.heap.size, 0, none⟩) := ho 2 (by rfl)
      obtain rfl : zk = 0 := by simp at hl hh; omega
      refine (if_pos (by rfl)).mpr ?_
      simp [go_sem, execOp, resolve, invoke, builtin, opRes_value, opRes_skip, opRes_enter, hc, hg, hf, hO, e2]
    · intro zk wx hl hh _ hO -- 1: fieldAddr 24 t5 0
      have e5 : ρ (.tmp 5) = .pointer (some ⟨w.heap.size, 0, none⟩) := hd 0 _ 5 rfl rfl
      obtain rfl : zk = 0 := by simp at hl hh; omega
      refine (if_pos (by rfl)).mpr ?_
      simp [go_sem, execOp, resolve, invoke, builtin, opRes_value, opRes_skip, opRes_enter, hc, hg, hf, hO, e5]
    · intro zk wx hl hh _ hO -- 2: load 5 t6
      have e6 : ρ (.tmp 6) = .pointer (some ⟨w.heap.size, 0, none⟩) := hd 1 _ 6 rfl rfl
      obtain rfl : zk = 0 := by simp at hl hh; omega
      refine (if_pos (by rfl)).mpr ?_
      have f0 := k7
      obtain rfl : wx = W1 := hO
      have hO := True.intro
      simp [go_sem, execOp, resolve, invoke, builtin, opRes_value, opRes_skip, opRes_enter, hc, hg, hf, hO, e6, f0]
    · intro zk wx hl hh _ hO -- 3: fieldAddr 26 t3 0
      have e3 : ρ (.tmp 3) = .pointer (some ⟨(w.heap.size + 1), 0, none⟩) := ho 3 (by rfl)
      obtain rfl : zk = 0 := by simp at hl hh; omega
      refine (if_pos (by rfl)).mpr ?_
      simp [go_sem, execOp, resolve, invoke, builtin, opRes_value, opRes_skip, opRes_enter, hc, hg, hf, hO, e3]
    · intro zk wx hl hh _ hO -- 4: fieldAddr 24 t8 0
      have e8 : ρ (.tmp 8) = .pointer (some ⟨(w.heap.size + 1), 0, none⟩) := hd 3 _ 8 rfl rfl
      obtain rfl : zk = 0 := by simp at hl hh; omega
      refine (if_pos (by rfl)).mpr ?_
      simp [go_sem, execOp, resolve, invoke, builtin, opRes_value, opRes_skip, opRes_enter, hc, hg, hf, hO, e8]
    · intro zk wx hl hh _ hO -- 5: load 5 t9
      have e9 : ρ (.tmp 9) = .pointer (some ⟨(w.heap.size + 1), 0, none⟩) := hd 4 _ 9 rfl rfl
      obtain rfl : zk = 0 := by simp at hl hh; omega
      refine (if_pos (by rfl)).mpr ?_
      have f0 := k10
      obtain rfl : wx = W1 := hO
      have hO := True.intro
      simp [go_sem, execOp, resolve, invoke, builtin, opRes_value, opRes_skip, opRes_enter, hc, hg, hf, hO, e9, f0]
    · intro zk wx hl hh _ hO -- 6: call { value (Operand.func 67), args := #[t7, t10], argTypes := #[5, 5] }
      have e7 : ρ (.tmp 7) = .int .u8 xc := hd 2 _ 7 rfl rfl
      have e10 : ρ (.tmp 10) = .int .u8 yc := hd 5 _ 10 rfl rfl
      obtain rfl : zk = 0 := by simp at hl hh; omega
      refine (if_pos (by rfl)).mpr ?_
      obtain rfl : wx = W1 := hO
      have hO := True.intro
      simp [go_sem, execOp, resolve, invoke, builtin, opRes_value, opRes_skip, opRes_enter, hc, hg, hf, hO, e7, e10]
      exact (compareB_any _ _ _).mono fun e wy h => ⟨h.1, h.2.symm⟩
    · intro zk wx hl hh _ hO -- 7: fieldAddr 26 t2 0
      have e2 : ρ (.tmp 2) = .pointer (some ⟨w.heap.size, 0, none⟩) := ho 2 (by rfl)
      obtain rfl : zk = 0 := by simp at hl hh; omega
      refine (if_pos (by rfl)).mpr ?_
      simp [go_sem, execOp, resolve, invoke, builtin, opRes_value, opRes_skip, opRes_enter, hc, hg, hf, hO, e2]
    · intro zk wx hl hh _ hO -- 8: fieldAddr 24 t12 1
      have e12 : ρ (.tmp 12) = .pointer (some ⟨w.heap.size, 0, none⟩) := hd 7 _ 12 rfl rfl
      obtain rfl : zk = 0 := by simp at hl hh; omega
      refine (if_pos (by rfl)).mpr ?_
      simp [go_sem, execOp, resolve, invoke, builtin, opRes_value, opRes_skip, opRes_enter, hc, hg, hf, hO, e12]
    · intro zk wx hl hh _ hO -- 9: load 22 t13
      have e13 : ρ (.tmp 13) = .pointer (some ⟨w.heap.size, 1, none⟩) := hd 8 _ 13 rfl rfl
      obtain rfl : zk = 0 := by simp at hl hh; omega
      refine (if_pos (by rfl)).mpr ?_
      have f0 := k14
      obtain rfl : wx = W1 := hO
      have hO := True.intro
      simp [go_sem, execOp, resolve, invoke, builtin, opRes_value, opRes_skip, opRes_enter, hc, hg, hf, hO, e13, f0]
    · intro zk wx hl hh _ hO -- 10: fieldAddr 26 t3 0
      have e3 : ρ (.tmp 3) = .pointer (some ⟨(w.heap.size + 1), 0, none⟩) := ho 3 (by rfl)
      obtain rfl : zk = 0 := by simp at hl hh; omega
      refine (if_pos (by rfl)).mpr ?_
      simp [go_sem, execOp, resolve, invoke, builtin, opRes_value, opRes_skip, opRes_enter, hc, hg, hf, hO, e3]
    · intro zk wx hl hh _ hO -- 11: fieldAddr 24 t15 1
      have e15 : ρ (.tmp 15) = .pointer (some ⟨(w.heap.size + 1), 0, none⟩) := hd 10 _ 15 rfl rfl
      obtain rfl : zk = 0 := by simp at hl hh; omega
      refine (if_pos (by rfl)).mpr ?_
      simp [go_sem, execOp, resolve, invoke, builtin, opRes_value, opRes_skip, opRes_enter, hc, hg, hf, hO, e15]
    · intro zk wx hl hh _ hO -- 12: load 22 t16
      have e16 : ρ (.tmp 16) = .pointer (some ⟨(w.heap.size + 1), 1, none⟩) := hd 11 _ 16 rfl rfl
      obtain rfl : zk = 0 := by simp at hl hh; omega
      refine (if_pos (by rfl)).mpr ?_
      have f0 := k17
      obtain rfl : wx = W1 := hO
      have hO := True.intro
      simp [go_sem, execOp, resolve, invoke, builtin, opRes_value, opRes_skip, opRes_enter, hc, hg, hf, hO, e16, f0]
    · intro zk wx hl hh _ hO -- 13: call { value (Operand.func 62), args := #[t14, t17], argTypes := #[22, 22] }
      have e14 : ρ (.tmp 14) = .int .u64 xr := hd 9 _ 14 rfl rfl
      have e17 : ρ (.tmp 17) = .int .u64 yr := hd 12 _ 17 rfl rfl
      obtain rfl : zk = 0 := by simp at hl hh; omega
      refine (if_pos (by rfl)).mpr ?_
      obtain rfl : wx = W1 := hO
      have hO := True.intro
      simp [go_sem, execOp, resolve, invoke, builtin, opRes_value, opRes_skip, opRes_enter, hc, hg, hf, hO, e14, e17]
      exact (compareU_any _ _ _).mono fun e wy h => ⟨h.1, h.2.symm⟩
    · intro zk wx hl hh _ hO -- 14: fieldAddr 26 t2 1
      have e2 : ρ (.tmp 2) = .pointer (some ⟨w.heap.size, 0, none⟩) := ho 2 (by rfl)
      obtain rfl : zk = 0 := by simp at hl hh; omega
      refine (if_pos (by rfl)).mpr ?_
      simp [go_sem, execOp, resolve, invoke, builtin, opRes_value, opRes_skip, opRes_enter, hc, hg, hf, hO, e2]
    · intro zk wx hl hh _ hO -- 15: load 5 t19
      have e19 : ρ (.tmp 19) = .pointer (some ⟨w.heap.size, 2, none⟩) := hd 14 _ 19 rfl rfl
      obtain rfl : zk = 0 := by simp at hl hh; omega
      refine (if_pos (by rfl)).mpr ?_
      have f0 := k20
      obtain rfl : wx = W1 := hO
      have hO := True.intro
      simp [go_sem, execOp, resolve, invoke, builtin, opRes_value, opRes_skip, opRes_enter, hc, hg, hf, hO, e19, f0]
    · intro zk wx hl hh _ hO -- 16: fieldAddr 26 t3 1
      have e3 : ρ (.tmp 3) = .pointer (some ⟨(w.heap.size + 1), 0, none⟩) := ho 3 (by rfl)
      obtain rfl : zk = 0 := by simp at hl hh; omega
      refine (if_pos (by rfl)).mpr ?_
      simp [go_sem, execOp, resolve, invoke, builtin, opRes_value, opRes_skip, opRes_enter, hc, hg, hf, hO, e3]
    · intro zk wx hl hh _ hO -- 17: load 5 t21
      have e21 : ρ (.tmp 21) = .pointer (some ⟨(w.heap.size + 1), 2, none⟩) := hd 16 _ 21 rfl rfl
      obtain rfl : zk = 0 := by simp at hl hh; omega
      refine (if_pos (by rfl)).mpr ?_
      have f0 := k22
      obtain rfl : wx = W1 := hO
      have hO := True.intro
      simp [go_sem, execOp, resolve, invoke, builtin, opRes_value, opRes_skip, opRes_enter, hc, hg, hf, hO, e21, f0]
    · intro zk wx hl hh _ hO -- 18: call { value (Operand.func 67), args := #[t20, t22], argTypes := #[5, 5] }
      have e20 : ρ (.tmp 20) = .int .u8 xi := hd 15 _ 20 rfl rfl
      have e22 : ρ (.tmp 22) = .int .u8 yi := hd 17 _ 22 rfl rfl
      obtain rfl : zk = 0 := by simp at hl hh; omega
      refine (if_pos (by rfl)).mpr ?_
      obtain rfl : wx = W1 := hO
      have hO := True.intro
      simp [go_sem, execOp, resolve, invoke, builtin, opRes_value, opRes_skip, opRes_enter, hc, hg, hf, hO, e20, e22]
      exact (compareB_any _ _ _).mono fun e wy h => ⟨h.1, h.2.symm⟩
    · intro zk wx hl hh _ hO -- 19: buildSlice 197 3 #[(0, t11), (1, t18), (2, t23)]
      have e11 : ρ (.tmp 11) = .int .i64 (cmpI xc yc) := hd 6 _ 11 rfl rfl
      have e18 : ρ (.tmp 18) = .int .i64 (cmpI xr yr) := hd 13 _ 18 rfl rfl
      have e23 : ρ (.tmp 23) = .int .i64 (cmpI xi yi) := hd 18 _ 23 rfl rfl
      obtain rfl : zk = 0 := by simp at hl hh; omega
      refine (if_pos (by rfl)).mpr ?_
      obtain rfl : wx = W1 := hO
      have hO := True.intro
      simp [go_sem, execOp, resolve, invoke, builtin, opRes_value, opRes_skip, opRes_enter, hc, hg, hf, hO, e11, e18, e23]
      exact HW2.out.symm
    · intro zk wx hl hh _ hO -- 20: call { value (Operand.func 66), args := #[t24], argTypes := #[197] }
      have e24 : ρ (.tmp 24) = .slice (some ⟨W1.heap.size, 0, none⟩) 3 3 := hd 19 _ 24 rfl rfl
      obtain rfl : zk = 1 := by simp at hl hh; omega
      refine (if_pos (by rfl)).mpr ?_
      obtain rfl : wx = W2 := hO
      have hO := True.intro
      simp [go_sem, execOp, resolve, invoke, builtin, opRes_value, opRes_skip, opRes_enter, hc, hg, hf, hO, e24]
      exact (or_any _ _ _ _ _ q0 q1 q2).mono fun e wy h => ⟨h.1, h.2.symm⟩
    · intro zk wx hl hh _ hO -- 21: assign t25
      have e25 : ρ (.tmp 25) = .int .i64 (orI (cmpI xc yc) (cmpI xr yr) (cmpI xi yi)) := hd 20 _ 25 rfl rfl
      obtain rfl : zk = 1 := by simp at hl hh; omega
      refine (if_pos (by rfl)).mpr ?_
      simp [go_sem, execOp, resolve, invoke, builtin, opRes_value, opRes_skip, opRes_enter, hc, hg, hf, hO, e25]
  · intro wx hO
    simp only [ssaAct, Act.put, List.setIfInBounds_toArray, List.set_cons_zero, List.set_cons_succ, Nat.zero_add, Nat.reduceAdd]
    obtain rfl : wx = W2 := hO
    go_wp2
    go_ret
    refine ⟨rfl, 1, #[.cells #[.int .u8 xc, .int .u64 xr, .int .u8 xi] 44, .cells #[.int .u8 yc, .int .u64 yr, .int .u8 yi] 44, .cells #[.int .i64 (cmpI xc yc), .int .i64 (cmpI xr yr), .int .i64 (cmpI xi yi)] 3], ?_⟩
    rw [HW2.out, HW1.out]
    rfl
def ltK (x y : Kid) : Prop := x.t.c < y.t.c ∨ (x.t.c = y.t.c ∧ (x.t.r < y.t.r ∨ (x.t.r = y.t.r ∧ x.i < y.i)))
theorem lt_kid (x y : Kid) : (ltOf cfK x y = true) ↔ ltK x y := by
  unfold ltOf cfK orI ltK cmpI
  rcases Int.lt_trichotomy x.t.c y.t.c with h | h | h
  · have : ¬ y.t.c < x.t.c := by omega
    simp [h]
  · rw [h]
    rcases Int.lt_trichotomy x.t.r y.t.r with g | g | g
    · simp [g]
    · rw [g]
      rcases Int.lt_trichotomy x.i y.i with k | k | k
      · simp [k]
      · rw [k]; simp
      · have : ¬ x.i < y.i := by omega
        simp [k, this]
    · have a : ¬ x.t.r < y.t.r := by omega
      have b : ¬ x.t.r = y.t.r := by omega
      simp [g, a, b]
  · have a : ¬ x.t.c < y.t.c := by omega
    have b : ¬ x.t.c = y.t.c := by omega
    simp [h, a, b]
theorem lt_kid_no (x y : Kid) : (ltOf cfK x y = false) ↔ ¬ ltK x y := by
  rw [← lt_kid]
  cases ltOf cfK x y <;> simp
theorem swoK : SWO (ltOf cfK) where
  irrefl x := by rw [lt_kid_no]; unfold ltK; omega
  trans x y z h1 h2 := by rw [lt_kid] at *; unfold ltK at *; omega
  ntrans x y z h1 h2 := by rw [lt_kid_no] at *; unfold ltK at *; omega
theorem totK (x y : Kid) (h1 : ltOf cfK x y = false) (h2 : ltOf cfK y x = false) : x = y := by
  rw [lt_kid_no] at h1 h2
  unfold ltK at h1 h2
  obtain ⟨⟨a, b⟩, c⟩ := x
  obtain ⟨⟨d, e⟩, f⟩ := y
  simp only at h1 h2
  have e1 : a = d := by omega
  have e2 : b = e := by omega
  have e3 : c = f := by omega
  rw [e1, e2, e3]
theorem cmpK_lays (blk off size : Nat) (w : World) : CmpLays Tryz.prog 90 #[] kcL 3 cfK blk off size w := by
  intro m os dk _ x y
  refine (keys1_any x y _).mono ?_
  rintro e w' ⟨rfl, h⟩
  exact ⟨rfl, h⟩
theorem collectK_in (F : Fence) (n : Nat) (hF : F.fn 145) (hA : F.fn 184) (hro : F.round = none) (hn : 4 ≤ n) (gf : Nat) (lb : Array Value) (hFg : F.fn gf) (eg : ∀ args w, (callFunc gf args).run Tryz.prog w = .ok (.enter gf args) w)
    (S Sp : List Kid → Prop) (N : Nat) (hN : N ≤ 1000000000) (w w0 : World) (hb0 : Below w0.heap.size w0 w) (hseq : SeqStopsK F (n - 1 - 1) Tryz.prog gf lb encKy KeepsWalks S Sp N w0) :
    CallsIn F n Tryz.prog 145 #[.func (.func gf) #[] lb] w fun e w' => ∃ v ss, e = .returned v ∧ S ss ∧ w'.ownsRow w.heap.size 44 3 v ss.length (cellsL kcL ss) ∧ (v = .slice none 0 0 ↔ ss = []) ∧ Below w.heap.size w w' := by
  have h1 : 1 ≤ n := by omega
  have cA := appendK_in F (n - 1) hA hro (by omega) gf lb hFg eg S Sp N hN w w0 hb0 hseq
  refine callsIn_of_wp Tryz.func145 rfl hF ?_ hro
  simp only [Tryz.ntmps145, List.size_toArray, List.length_cons, List.length_nil, Nat.reduceAdd, Nat.reduceSub, Array.replicate_succ, Array.replicate_zero, List.push_toArray, List.append_toArray, List.nil_append, List.cons_append]
  gi_wp2_with (gi_at_call 184; refine cA.mono ?_; rintro e w' ⟨v, ss, rfl, hS, hrow, hnil, hb⟩)
  go_ret
  exact ⟨v, ss, rfl, hS, hrow, hnil, hb⟩
def SortedFK : Nat := 88
def Keys1F : Nat := 90
set_option maxHeartbeats 4000000 in
theorem sortedK_any (Bn b : Nat) (L : List (Kid × Value)) (rs : List Kid) (hL : L.map (·.1) = rs) (w : World) (hm : MapAt kidK w b L) (hBn : w.cell? ⟨Bn, 0, none⟩ = some (.map (some b))) (hlen : L.length ≤ 1000000000) :
    Calls Tryz.prog SortedFK #[.func (.func KeysK1) #[] #[.pointer (some ⟨Bn, 0, none⟩)], .func (.func Keys1F) #[] #[]] w fun e w' => ∃ v, e = .returned v ∧ w'.ownsRow w.heap.size 44 3 v rs.length (cellsL kcL (sortBy cfK rs)) ∧ Below w.heap.size w w' := by
  refine (callsIn_wide (n := 8)).1 ?_
  have hbl : b < w.heap.size := hm.lt
  have hBl : Bn < w.heap.size := World.block_lt_of_cell? w _ hBn
  have hseq : SeqStopsK Fence.wide 5 Tryz.prog KeysK1 #[.pointer (some ⟨Bn, 0, none⟩)] encKy KeepsWalks (fun ys => ys.Perm (L.map (·.1))) (fun pre => ∃ rest, (pre ++ rest).Perm (L.map (·.1))) L.length w := fun l J Jx W hW hJ hJx hY h0 =>
    keysK1_in Fence.wide 5 trivial rfl (by omega) l Bn b L J Jx W hJ (hm.same (hW.block b hbl)) ((hW.cell (p := ⟨Bn, 0, none⟩) hBl).trans hBn) hY h0
  have cC := collectK_in Fence.wide 7 trivial trivial rfl (by omega) KeysK1 #[.pointer (some ⟨Bn, 0, none⟩)] trivial (enters_of Tryz.func147 (by kernel_rfl) rfl) _ _ L.length hlen w w (Below.refl _ _) hseq
  have hfC : Fence.wide.fn 145 := trivial
  have hfS : Fence.wide.fn 146 := trivial
  have hLL : L.length = rs.length := by have := congrArg List.length hL; simpa using this
  rw [hL] at cC
  clear hseq hm hBn hL
  unfold SortedFK
  refine callsIn_of_wp Tryz.func88 rfl trivial ?_ rfl
  simp only [Tryz.ntmps88, List.size_toArray, List.length_cons, List.length_nil, Nat.reduceAdd, Nat.reduceSub, Array.replicate_succ, Array.replicate_zero, List.push_toArray, List.append_toArray, List.nil_append, List.cons_append]
  gi_wp2_with (gi_at_call 145; refine cC.mono ?_; rintro e W ⟨v, ss, rfl, hS, hrow, hnil, hb⟩)
  have hsort : sortBy cfK ss = sortBy cfK rs := sortBy_eq swoK totK hS
  have hsl : ss.length = rs.length := hS.length_eq
  rw [hsl] at hrow
  rcases hrow.2 with ⟨rfl, hz⟩ | ⟨gb, cap, cur, rfl, hbase, hgb, r1, r2, r3, r4⟩
  · have hrs : rs = [] := List.eq_nil_of_length_eq_zero hz
    subst hrs
    have cN : CallsIn Fence.wide 7 Tryz.prog 146 #[.slice none 0 0, .func (.func Keys1F) #[] #[]] W fun e w' => e = .returned (.tuple #[]) ∧ w' = W := callsIn_wide.2 (AnyF.slices_SortFunc_none sortK none 0 _ W)
    gi_wp2_with (gi_at_call 146; refine cN.mono ?_; rintro e w' ⟨rfl, rfl⟩)
    go_ret
    refine ⟨_, rfl, ?_, hb⟩
    have hdn : ss = [] := List.eq_nil_of_length_eq_zero hsl
    subst hdn
    have e0 : sortBy cfK ([] : List Kid) = [] := List.eq_nil_of_length_eq_zero (sortBy_perm cfK []).length_eq
    rw [e0]
    exact hrow
  · have hda : ss.toArray.size = rs.length := by simpa using hsl
    have hH : HoldsK kcL 3 W gb 0 ss.toArray := holdsK_of_owns (enc := kcL) (k := 3) (fun _ => rfl) ss.toArray hda hrow
    have hgl : gb < W.heap.size := (Array.getElem?_eq_some_iff.1 hgb).1
    have cS : CallsIn Fence.wide 7 Tryz.prog 146 #[.slice (some ⟨gb, 0, none⟩) ss.toArray.size cap, .func (.func Keys1F) #[] #[]] W fun e w' => e = .returned (.tuple #[]) ∧ ∃ n os, w' = sortWorldK kcL 3 W gb 0 n (sortBy cfK ss).toArray os :=
      callsIn_wide.2 (AnyQ.slices_SortFunc_total sortK 3 Tryz.isAgg44 Tryz.sizeOf44 (kcL) (fun _ => rfl) (fun x v hv => by simp [kcL] at hv; rcases hv with rfl | rfl | rfl <;> rfl) cfK swoK Keys1F #[] gb 0 cap ss.toArray W (enters_of Tryz.func90 (by kernel_rfl) rfl) (cmpK_lays gb 0 _ W) hH hgl (by rw [hda]; omega) totK)
    rw [hda] at cS
    gi_wp2_with (gi_at_call 146; refine cS.mono ?_; rintro e w' ⟨rfl, nn, os, rfl⟩)
    go_ret
    refine ⟨_, rfl, ?_, ?_⟩
    · have := ownsRow_sortedK (m := nn) (os := os) (enc := kcL) (k := 3) (fun _ => rfl) (sortBy cfK ss).toArray (by have := (sortBy_perm cfK ss).length_eq; simpa [hsl] using this) _ hrow
      rw [← hsort]
      exact this
    · exact hb.grown (swk_grown ⟨nn, os, rfl⟩) hb.size (fun j hj => by cases hj; exact hbase)
end Go.Proofs.YtmhbpifhpolghaaGreat
end
section
namespace Go.Proofs.YtmhbpifhpolghaaGreat
open Go.RowKit Go.Lib Go.Tk Go.Shelf Go.Vc Go.Sx Go.Maps
theorem mem_owns {cs : List Chunk} {w w' : World} (h : Mem cs w) (hb : Below w.heap.size w w') {E : TypeId} {size n : Nat} {v : Value} {xs : List Value} (ho : w'.ownsRow w.heap.size E size v n xs) : Mem (rowC E size v n xs :: cs) w' := by
  refine h.fresh hb (fun k => v.ownBlock = some k) ⟨fun g hg => hg, ho.1, ?_⟩ (fun k hk => ho.lt k hk)
  rcases ho.2 with h1 | ⟨g, cap, cur, hv, hbase, hgb, r1, r2, r3, r4⟩
  · exact .inl h1
  · exact .inr ⟨g, cap, cur, hv, ⟨E, (0, 0), (fun _ h => by cases h; rfl), hgb, noFz_none _⟩, r1, r2, r3, r4⟩
theorem sortedT_c (F : CF) {L : List (Tid × Value)} {c : Int} {rs : List Int} (hF : ∀ b v S w, (F b v).at_ S w → MapAt tidK w b L) (hL : L.map (·.1) = rs.map (Tid.mk c)) (hlen : L.length ≤ 1000000000) :
    CallOK Tryz.prog SortedFT [.fn (.func KeysT1) [] [.ptr 0 5 0], .fn (.func Tickets1) [] []] [((0, 1), .fam F)] [((0, 5), .box none [.map 0 1])] (.raw 1 0) [((0, 5), .box none [.map 0 1]), ((1, 0), .row 39 2 rs.length (.shal (cellsL tcL ((sortBy cmpI rs).map (Tid.mk c)))) [])] := by
  intro ε R w hM
  have hM : Mem (F (ε 0 1).1 (ε 0 1).2 :: boxE none (ε 0 5).1 #[.map (some (ε 0 1).1)] :: R) w := hM
  have hm : MapAt tidK w (ε 0 1).1 L := hM.of 0 rfl (fun S hS => hF _ _ _ _ hS)
  have hc : w.cell? ⟨(ε 0 5).1, 0, none⟩ = some (.map (some (ε 0 1).1)) := (hM.box 1 rfl).cell 0 rfl
  refine (sortedT_any (ε 0 5).1 (ε 0 1).1 L c rs hL w hm hc hlen).mono ?_
  rintro e w' ⟨v, rfl, hrow, hb⟩
  obtain ⟨va, vc, rfl, -, -, -⟩ := own_slice hrow
  have h1 := ((mem_owns hM hb hrow).front 2 rfl).front 2 rfl
  have e1 : ∀ x : Nat → Nat × Value, eset ε 1 x 1 = x := fun x => by simp [eset]
  have e0 : ∀ x : Nat → Nat × Value, eset ε 1 x 0 = ε 0 := fun x => eset_ne (by decide)
  refine ⟨fun _ => (0, .slice va rs.length vc), by simp only [SV.den]; rw [e1]; rfl, ?_⟩
  show Mem (F (eset ε 1 _ 0 1).1 (eset ε 1 _ 0 1).2 :: boxE none (eset ε 1 _ 0 5).1 #[.map (some (eset ε 1 _ 0 1).1)] :: rowC 39 2 (asSl (eset ε 1 _ 1 0).2) rs.length _ :: R) w'
  rw [e1, e0]
  exact h1
theorem sortedK_c (F : CF) {L : List (Kid × Value)} {rs : List Kid} (hF : ∀ b v S w, (F b v).at_ S w → MapAt kidK w b L) (hL : L.map (·.1) = rs) (hlen : L.length ≤ 1000000000) :
    CallOK Tryz.prog SortedFK [.fn (.func KeysK1) [] [.ptr 0 5 0], .fn (.func Keys1F) [] []] [((0, 3), .fam F)] [((0, 5), .box none [.map 0 3])] (.raw 1 0) [((0, 5), .box none [.map 0 3]), ((1, 0), .row 44 3 rs.length (.shal (cellsL kcL (sortBy cfK rs))) [])] := by
  intro ε R w hM
  have hM : Mem (F (ε 0 3).1 (ε 0 3).2 :: boxE none (ε 0 5).1 #[.map (some (ε 0 3).1)] :: R) w := hM
  have hm : MapAt kidK w (ε 0 3).1 L := hM.of 0 rfl (fun S hS => hF _ _ _ _ hS)
  have hc : w.cell? ⟨(ε 0 5).1, 0, none⟩ = some (.map (some (ε 0 3).1)) := (hM.box 1 rfl).cell 0 rfl
  refine (sortedK_any (ε 0 5).1 (ε 0 3).1 L rs hL w hm hc hlen).mono ?_
  rintro e w' ⟨v, rfl, hrow, hb⟩
  obtain ⟨va, vc, rfl, -, -, -⟩ := own_slice hrow
  have h1 := ((mem_owns hM hb hrow).front 2 rfl).front 2 rfl
  have e1 : ∀ x : Nat → Nat × Value, eset ε 1 x 1 = x := fun x => by simp [eset]
  have e0 : ∀ x : Nat → Nat × Value, eset ε 1 x 0 = ε 0 := fun x => eset_ne (by decide)
  refine ⟨fun _ => (0, .slice va rs.length vc), by simp only [SV.den]; rw [e1]; rfl, ?_⟩
  show Mem (F (eset ε 1 _ 0 3).1 (eset ε 1 _ 0 3).2 :: boxE none (eset ε 1 _ 0 5).1 #[.map (some (eset ε 1 _ 0 3).1)] :: rowC 44 3 (asSl (eset ε 1 _ 1 0).2) rs.length _ :: R) w'
  rw [e1, e0]
  exact h1
def KeysTF : Nat := 85
def KeysKF : Nat := 89
theorem keysT_c : CallOK Tryz.prog KeysTF [.map 0 1] [] [] (.fn (.func KeysT1) [] [.ptr 1 0 0]) [((1, 0), .box none [.map 0 1])] := callOK_run 400 [] (by kernel_rfl) (by kernel_rfl)
theorem keysK_c : CallOK Tryz.prog KeysKF [.map 0 3] [] [] (.fn (.func KeysK1) [] [.ptr 1 0 0]) [((1, 0), .box none [.map 0 3])] := callOK_run 400 [] (by kernel_rfl) (by kernel_rfl)
def TicketsF : Nat := 50
def KeysF : Nat := 57
theorem tickets_w (F : CF) (B : BookV) {L : List (Tid × Value)} {c : Int} {rs : List Int} (hF : ∀ b v S w, (F b v).at_ S w → MapAt tidK w b L) (hL : L.map (·.1) = rs.map (Tid.mk c)) (hlen : L.length ≤ 1000000000) :
    CallOK Tryz.prog TicketsF [.ptr 0 0 0] (bkH F B) [] (.raw 1 0) [((1, 0), .row 39 2 rs.length (.shal (cellsL tcL ((sortBy cmpI rs).map (Tid.mk c)))) [])] := by
  have c1 := keysT_c
  have c2 := sortedT_c F hF hL hlen
  exact callOK_run 400 [hC 3 4 c1, hC 3 5 c2] (by kernel_rfl) (by kernel_rfl)
theorem keys_w (F : CF) (B : BookV) (hlen : B.helds.length ≤ 1000000000) :
    CallOK Tryz.prog KeysF [.ptr 0 0 0] (bkH F B) [] (.raw 1 0) [((1, 0), .row 44 3 (B.helds.map (·.1)).length (.shal (cellsL kcL (sortBy cfK (B.helds.map (·.1))))) [])] := by
  have c1 := keysK_c
  have c2 := sortedK_c (mapT kidK heldW B.helds) (L := ents heldW B.helds) (rs := B.helds.map (·.1)) (fun b v S w h => h.2) (by unfold ents; rw [List.map_map]; rfl) (by unfold ents; rw [List.length_map]; exact hlen)
  exact callOK_run 400 [hC 3 4 c1, hC 3 5 c2] (by kernel_rfl) (by kernel_rfl)
end Go.Proofs.YtmhbpifhpolghaaGreat
end
