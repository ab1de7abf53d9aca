/- Ky3, KyS, Ky4, Kk1, Kk2, Kk3, Kk4, Kk5, Kk6, Ky5. -/
import Derived.Test.YtifapcpcemigdaaGreatM2efc9fd
import Derived.Test.YtifapcpcemigdaaGreatM3e71795
import Derived.Test.YtifapcpcemigdaaGreatM20a089e
import Derived.Sort.OwnSorted
import Derived.Test.YtifapcpcemigdaaGreatM5faae23
import Derived.Shelf.SlLaysF0
import Derived.Shelf.SlSortCmp.NoneTotal
import Derived.RangeFuncBox
import Derived.RangeFuncNested
import Derived.RangeFuncBound
import Derived.RangeFuncCalls
import Derived.RangeFuncLeaves
import Derived.RangeFuncGives
import Derived.RangeFuncKeeps
import Derived.Shelf.Abstract
import Derived.Shelf.RegionOpen
import Derived.WalkKit
import Derived.OwnWalkIn
import Derived.TacticsInMore
import Derived.LoopNIn
import Derived.LoopIn
import Derived.Sort.LoopGhostIn
import Derived.Test.YtifapcpcemigdaaGreatM03a5973
import Derived.RangeFuncFrom
import Derived.RangeFuncWrites
import Derived.Test.YtifapcpcemigdaaGreatMb4bbac2
import Derived.Deep.Cut
import Derived.Test.YtifapcpcemigdaaGreatM533403a
set_option maxRecDepth 100000
set_option linter.unusedVariables false
set_option linter.unusedSimpArgs false
set_option linter.unusedSectionVars false
section
namespace Go.Proofs.YtifapcpcemigdaaGreat
open Go.RowKit Go.Lib Go.Tk Go.Shelf Go.Maps Go.Sort
section
variable {α : Type} [Inhabited α] {enc : α → List Value} {k : Nat}
theorem ownsRow_sortedK {w : World} {base g cap n : Nat} {e : TypeId} {m : Nat} {os : Array Obj} (hk : ∀ x, (enc x).length = k) (d' : Array α) (hn : d'.size = n) (xs : List Value)
    (h : w.ownsRow base e k (.slice (some ⟨g, 0, none⟩) n cap) n xs) : (sortWorldK enc k w g 0 m d' os).ownsRow base e k (.slice (some ⟨g, 0, none⟩) n cap) n (cellsL enc d'.toList) := by
  subst hn
  rcases h.2 with ⟨h0, _⟩ | ⟨g2, cap2, cur, heq, hbase, hgb, h1, h2, h3, h4⟩
  · cases h0
  · simp only [Value.slice.injEq, Option.some.injEq, Addr.mk.injEq, true_and, and_true] at heq
    obtain ⟨rfl, rfl⟩ := heq
    have hg : g < w.heap.size := (Array.getElem?_eq_some_iff.1 hgb).1
    have hl : (cellsL enc d'.toList).length = d'.size * k := flat_len hk d'
    have hcs : d'.size * k ≤ cur.size := by rw [h3]; exact Nat.mul_le_mul_right k h1
    refine ⟨hl, .inr ⟨g, cap, putCells id 0 (flatK enc k d') cur, rfl, hbase, ?_, h1, h2, by simp [putCells, h3], ?_⟩⟩
    · unfold sortWorldK putRowK
      rw [heap_grow_old _ _ (by simpa using hg)]
      simp [putRow, mapBlock, Sort.ahead, Array.getElem?_modify, hgb, onCells]
    · apply List.ext_getElem?
      intro j
      by_cases hj : j < d'.size * k
      · rw [List.getElem?_take_of_lt hj, Array.getElem?_toList]
        have e1 := flat_get hk d' j hj
        have e2 : (cellsL enc d'.toList)[j]? = some ((cellsL enc d'.toList).getD j undef) := by
          rw [List.getD_eq_getElem?_getD, List.getElem?_eq_getElem (by rw [hl]; exact hj)]; rfl
        rw [e2]
        show _ = some (((d'.toList.map enc).flatten).getD j undef)
        rw [e1]
        simp [putCells, hj, show j < cur.size by omega]
      · rw [List.getElem?_take_eq_none (by omega), List.getElem?_eq_none (by rw [hl]; omega)]
end
set_option maxHeartbeats 400000 in
theorem compareU_any (a b : Int) (w : World) : Calls Tryz.prog 32 #[.int .u64 a, .int .u64 b] w fun e w' => e = .returned (.int .i64 (cmpI a b)) ∧ w = w' := by
  have h63 : ∀ (x : Int) (w : World), Calls Tryz.prog 67 #[.int .u64 x] w fun e w' => e = .returned (.bool false) ∧ w = w' := by
    intro x w
    go_enter Tryz.func67, Tryz.ntmps67
    go_wp2
    go_ret
    exact ⟨rfl, rfl⟩
  have H := hid h63
  clear h63
  rcases Int.lt_trichotomy a b with h | rfl | h
  · have F : Hid (cmpI a b = -1) := by unfold Hid cmpI; rw [if_pos h]
    go_enter Tryz.func32, Tryz.ntmps32
    go_wp2_with (go_at_call 67; refine (H.out _ _).mono ?_; rintro e w' ⟨rfl, rfl⟩)
    go_ret
    exact ⟨ret_i (by rw [F.out]), rfl⟩
  · have F : Hid (cmpI a a = 0) := by unfold Hid cmpI; simp
    go_enter Tryz.func32, Tryz.ntmps32
    go_wp2_with (go_at_call 67; refine (H.out _ _).mono ?_; rintro e w' ⟨rfl, rfl⟩)
    go_ret
    exact ⟨ret_i (by rw [F.out]), rfl⟩
  · have F : Hid (cmpI a b = 1) := by unfold Hid cmpI; rw [if_neg (by omega), if_pos h]
    go_enter Tryz.func32, Tryz.ntmps32
    go_wp2_with (go_at_call 67; refine (H.out _ _).mono ?_; rintro e w' ⟨rfl, rfl⟩)
    go_ret
    exact ⟨ret_i (by rw [F.out]), rfl⟩
def encS (c : Int) (r : Int) : List Value := [.int .u8 c, .int .u64 r]
set_option maxHeartbeats 400000 in
theorem tickets1_any (c x y : Int) (w : World) :
    Calls Tryz.prog 31 #[.agg (encS c x).toArray, .agg (encS c y).toArray] w fun e w' => e = .returned (.int .i64 (cmpI x y)) ∧ (w.alloc (.cells (encS c x).toArray 35)).alloc (.cells (encS c y).toArray 35) = w' := by
  simp only [encS]
  go_enter Tryz.func31, Tryz.ntmps31
  go_wp2_with (go_at_call 32; refine (compareU_any _ _ _).mono ?_; rintro e w' ⟨rfl, rfl⟩)
  go_ret
  exact ⟨rfl, rfl⟩
theorem cmpT_lays (c : Int) (blk off size : Nat) (w : World) : CmpLays Tryz.prog 31 #[] (encS c) 2 cmpI blk off size w := by
  intro m os dk _ x y
  refine (tickets1_any c x y _).mono ?_
  rintro e w' ⟨rfl, rfl⟩
  refine ⟨rfl, 0, #[.cells (encS c x).toArray 35, .cells (encS c y).toArray 35], ?_⟩
  rfl
theorem ltI (x y : Int) : ltOf cmpI x y = decide (x < y) := by
  unfold ltOf cmpI
  by_cases h1 : x < y
  · simp [h1]
  · by_cases h2 : y < x <;> simp [h1, h2]
theorem swoI : SWO (ltOf cmpI) where
  irrefl x := by rw [ltI]; simp
  trans x y z h1 h2 := by rw [ltI] at *; simp at *; omega
  ntrans x y z h1 h2 := by rw [ltI] at *; simp at *; omega
theorem totI (x y : Int) (h1 : ltOf cmpI x y = false) (h2 : ltOf cmpI y x = false) : x = y := by
  rw [ltI] at h1 h2; simp at h1 h2; omega
end Go.Proofs.YtifapcpcemigdaaGreat
end
section
namespace Go.Proofs.YtifapcpcemigdaaGreat
open Go.RowKit Go.Lib Go.Tk Go.Shelf
def sortT_ren : Go.Shelf.Ren := ⟨fun | 6 => 65 | 15 => 117 | 28 => 155 | 29 => 156 | 47 => 168 | 48 => 169 | 14 => 116 | 20 => 147 | 21 => 148 | 22 => 149 | 23 => 150 | 24 => 151 | 25 => 152 | 26 => 153 | 27 => 154 | 46 => 167 | 49 => 170 | 50 => 171 | 57 => 174 | n => n, fun | 22 => 58 | 24 => 35 | 25 => 102 | 3 => 3 | 39 => 193 | 0 => 0 | 53 => 41 | 55 => 33 | 4 => 4 | 46 => 228 | 45 => 227 | 50 => 232 | 5 => 5 | 9 => 9 | 66 => 250 | 70 => 254 | 76 => 260 | 77 => 261 | n => n, fun n => n⟩
theorem sortT : SlLaysF0.n6 Tryz.prog sortT_ren where
  mixed := by kernel_rfl
  f6 := ⟨ "slices.SortFunc[[]tarmac/api.Ticket,tarmac/api.Ticket]", by decide, Tryz.func65.trans (congrArg some (by kernel_rfl))⟩
  f14 := ⟨ "slices.pdqsortCmpFunc[tarmac/api.Ticket]", by decide, Tryz.func116.trans (congrArg some (by kernel_rfl))⟩
  f15 := Tryz.func117.trans (congrArg some (by kernel_rfl))
  f20 := ⟨ "slices.insertionSortCmpFunc[tarmac/api.Ticket]", by decide, Tryz.func147.trans (congrArg some (by kernel_rfl))⟩
  f21 := ⟨ "slices.heapSortCmpFunc[tarmac/api.Ticket]", by decide, Tryz.func148.trans (congrArg some (by kernel_rfl))⟩
  f22 := ⟨ "slices.breakPatternsCmpFunc[tarmac/api.Ticket]", by decide, Tryz.func149.trans (congrArg some (by kernel_rfl))⟩
  f23 := ⟨ "slices.choosePivotCmpFunc[tarmac/api.Ticket]", by decide, Tryz.func150.trans (congrArg some (by kernel_rfl))⟩
  f24 := ⟨ "slices.reverseRangeCmpFunc[tarmac/api.Ticket]", by decide, Tryz.func151.trans (congrArg some (by kernel_rfl))⟩
  f25 := ⟨ "slices.partialInsertionSortCmpFunc[tarmac/api.Ticket]", by decide, Tryz.func152.trans (congrArg some (by kernel_rfl))⟩
  f26 := ⟨ "slices.partitionEqualCmpFunc[tarmac/api.Ticket]", by decide, Tryz.func153.trans (congrArg some (by kernel_rfl))⟩
  f27 := ⟨ "slices.partitionCmpFunc[tarmac/api.Ticket]", by decide, Tryz.func154.trans (congrArg some (by kernel_rfl))⟩
  f28 := Tryz.func155.trans (congrArg some (by kernel_rfl))
  f29 := Tryz.func156.trans (congrArg some (by kernel_rfl))
  f46 := ⟨ "slices.siftDownCmpFunc[tarmac/api.Ticket]", by decide, Tryz.func167.trans (congrArg some (by kernel_rfl))⟩
  f47 := Tryz.func168.trans (congrArg some (by kernel_rfl))
  f48 := Tryz.func169.trans (congrArg some (by kernel_rfl))
  f49 := ⟨ "slices.medianAdjacentCmpFunc[tarmac/api.Ticket]", by decide, Tryz.func170.trans (congrArg some (by kernel_rfl))⟩
  f50 := ⟨ "slices.medianCmpFunc[tarmac/api.Ticket]", by decide, Tryz.func171.trans (congrArg some (by kernel_rfl))⟩
  f57 := ⟨ "slices.order2CmpFunc[tarmac/api.Ticket]", by decide, Tryz.func174.trans (congrArg some (by kernel_rfl))⟩
  t0 := Tryz.underlying0
  a0 := Tryz.isAgg0
  z0 := Tryz.sizeOf0
  v0 := Tryz.zeroValue0
  t3 := Tryz.underlying3
  a3 := Tryz.isAgg3
  z3 := Tryz.sizeOf3
  v3 := Tryz.zeroValue3
  t4 := Tryz.underlying4
  a4 := Tryz.isAgg4
  z4 := Tryz.sizeOf4
  v4 := Tryz.zeroValue4
  t5 := Tryz.underlying5
  a5 := Tryz.isAgg5
  z5 := Tryz.sizeOf5
  v5 := Tryz.zeroValue5
  t9 := Tryz.underlying9
  a9 := Tryz.isAgg9
  z9 := Tryz.sizeOf9
  v9 := Tryz.zeroValue9
  t22 := Tryz.underlying58
  a22 := Tryz.isAgg58
  z22 := Tryz.sizeOf58
  v22 := Tryz.zeroValue58
  t25 := Tryz.underlying102
  a25 := Tryz.isAgg102
  z25 := Tryz.sizeOf102
  v25 := Tryz.zeroValue102
  t39 := Tryz.underlying193
  a39 := Tryz.isAgg193
  z39 := Tryz.sizeOf193
  v39 := Tryz.zeroValue193
  t45 := Tryz.underlying227
  a45 := Tryz.isAgg227
  z45 := Tryz.sizeOf227
  v45 := Tryz.zeroValue227
  t46 := Tryz.underlying228
  a46 := Tryz.isAgg228
  z46 := Tryz.sizeOf228
  v46 := Tryz.zeroValue228
  t50 := Tryz.underlying232
  a50 := Tryz.isAgg232
  z50 := Tryz.sizeOf232
  v50 := Tryz.zeroValue232
  t53 := Tryz.underlying41
  a53 := Tryz.isAgg41
  z53 := Tryz.sizeOf41
  v53 := Tryz.zeroValue41
  t55 := Tryz.underlying33
  a55 := Tryz.isAgg33
  z55 := Tryz.sizeOf33
  v55 := Tryz.zeroValue33
  t66 := Tryz.underlying250
  a66 := Tryz.isAgg250
  z66 := Tryz.sizeOf250
  v66 := Tryz.zeroValue250
  t70 := Tryz.underlying254
  a70 := Tryz.isAgg254
  z70 := Tryz.sizeOf254
  v70 := Tryz.zeroValue254
  t76 := Tryz.underlying260
  a76 := Tryz.isAgg260
  z76 := Tryz.sizeOf260
  v76 := Tryz.zeroValue260
  t77 := Tryz.underlying261
  a77 := Tryz.isAgg261
  z77 := Tryz.sizeOf261
  v77 := Tryz.zeroValue261
end Go.Proofs.YtifapcpcemigdaaGreat
end
section
namespace Go.Proofs.YtifapcpcemigdaaGreat
open Go.RowKit Go.Lib Go.Tk Go.Shelf Go.Maps Go.Sort
section
variable {α : Type} [Inhabited α]
def sortBy (cf : α → α → Int) (l : List α) : List α := l.mergeSort fun x y => !(ltOf cf) y x
omit [Inhabited α] in
theorem sortBy_perm (cf : α → α → Int) (l : List α) : (sortBy cf l).Perm l := List.mergeSort_perm _ _
omit [Inhabited α] in
theorem sortBy_pair {cf : α → α → Int} (hS : SWO (ltOf cf)) (l : List α) : (sortBy cf l).Pairwise fun x y => (!(ltOf cf) y x) = true := by
  refine List.pairwise_mergeSort ?_ ?_ _
  · intro a b c h1 h2
    simp only [Bool.not_eq_true'] at h1 h2 ⊢
    exact hS.ntrans c b a h2 h1
  · intro a b
    cases h : ltOf cf b a with
    | false => simp
    | true => simp [hS.asymmA h]
omit [Inhabited α] in
theorem sortBy_eq {cf : α → α → Int} (hS : SWO (ltOf cf)) (hT : ∀ x y, (ltOf cf) x y = false → (ltOf cf) y x = false → x = y) {a b : List α} (h : a.Perm b) : sortBy cf a = sortBy cf b := by
  refine List.Perm.eq_of_pairwise (le := fun x y => (!(ltOf cf) y x) = true) ?_ (sortBy_pair hS a) (sortBy_pair hS b) (((sortBy_perm cf a).trans h).trans (sortBy_perm cf b).symm)
  intro a b _ _ h1 h2
  simp only [Bool.not_eq_true'] at h1 h2
  exact hT a b h2 h1
omit [Inhabited α] in
theorem sortBy_self {cf : α → α → Int} (hS : SWO (ltOf cf)) (hT : ∀ x y, (ltOf cf) x y = false → (ltOf cf) y x = false → x = y) {a : List α} (h : a.Pairwise fun x y => (!(ltOf cf) y x) = true) : sortBy cf a = a := by
  refine List.Perm.eq_of_pairwise (le := fun x y => (!(ltOf cf) y x) = true) ?_ (sortBy_pair hS a) h (sortBy_perm cf a)
  intro a b _ _ h1 h2
  simp only [Bool.not_eq_true'] at h1 h2
  exact hT a b h2 h1
end
theorem collectT_in (F : Fence) (n : Nat) (hF : F.fn 64) (hA : F.fn 115) (hro : F.round = none) (hn : 4 ≤ n) (gf : Nat) (lb : Array Value) (hFg : F.fn gf) (eg : ∀ args w, (callFunc gf args).run Tryz.prog w = .ok (.enter gf args) w)
    (S Sp : List Tid → Prop) (N : Nat) (hN : N ≤ 1000000000) (w w0 : World) (hb0 : Below w0.heap.size w0 w) (hseq : SeqStopsK F (n - 1 - 1) Tryz.prog gf lb encT KeepsWalks S Sp N w0) :
    CallsIn F n Tryz.prog 64 #[.func (.func gf) #[] lb] w fun e w' => ∃ v ss, e = .returned v ∧ S ss ∧ w'.ownsRow w.heap.size 35 2 v ss.length (cellsL tcL ss) ∧ (v = .slice none 0 0 ↔ ss = []) ∧ Below w.heap.size w w' := by
  have h1 : 1 ≤ n := by omega
  have cA := appendT_in F (n - 1) hA hro (by omega) gf lb hFg eg S Sp N hN w w0 hb0 hseq
  refine callsIn_of_wp Tryz.func64 rfl hF ?_ hro
  simp only [Tryz.ntmps64, List.size_toArray, List.length_cons, List.length_nil, Nat.reduceAdd, Nat.reduceSub, Array.replicate_succ, Array.replicate_zero, List.push_toArray, List.append_toArray, List.nil_append, List.cons_append]
  gi_wp2_with (gi_at_call 115; refine cA.mono ?_; rintro e w' ⟨v, ss, rfl, hS, hrow, hnil, hb⟩)
  go_ret
  exact ⟨v, ss, rfl, hS, hrow, hnil, hb⟩
def SortedFT : Nat := 29
def Tickets1 : Nat := 31
theorem cells_tid (c : Int) (rs : List Int) : cellsL tcL (rs.map (Tid.mk c)) = cellsL (encS c) rs := by
  unfold cellsL
  rw [List.map_map]
  rfl
theorem tid_back {c : Int} {rs : List Int} {ss : List Tid} (h : ss.Perm (rs.map (Tid.mk c))) : ss = (ss.map (·.r)).map (Tid.mk c) ∧ (ss.map (·.r)).Perm rs := by
  constructor
  · have : ∀ x ∈ ss, x.c = c := fun x hx => by
      obtain ⟨r, -, rfl⟩ := List.mem_map.1 (h.mem_iff.1 hx)
      rfl
    rw [List.map_map]
    conv => lhs; rw [← List.map_id ss]
    refine List.map_congr_left fun x hx => ?_
    have := this x hx
    obtain ⟨a, b⟩ := x
    cases this
    rfl
  · have := h.map (·.r)
    rw [List.map_map, show ((fun x : Tid => x.r) ∘ Tid.mk c) = id from rfl, List.map_id] at this
    exact this
set_option maxHeartbeats 4000000 in
theorem sortedT_any (Bn b : Nat) (L : List (Tid × Value)) (c : Int) (rs : List Int) (hL : L.map (·.1) = rs.map (Tid.mk c)) (w : World) (hm : MapAt tidK w b L) (hBn : w.cell? ⟨Bn, 0, none⟩ = some (.map (some b))) (hlen : L.length ≤ 1000000000) :
    Calls Tryz.prog SortedFT #[.func (.func KeysT1) #[] #[.pointer (some ⟨Bn, 0, none⟩)], .func (.func Tickets1) #[] #[]] w fun e w' => ∃ v, e = .returned v ∧ w'.ownsRow w.heap.size 35 2 v rs.length (cellsL tcL ((sortBy cmpI rs).map (Tid.mk c))) ∧ Below w.heap.size w w' := by
  refine (callsIn_wide (n := 8)).1 ?_
  have hbl : b < w.heap.size := hm.lt
  have hBl : Bn < w.heap.size := World.block_lt_of_cell? w _ hBn
  have hseq : SeqStopsK Fence.wide 5 Tryz.prog KeysT1 #[.pointer (some ⟨Bn, 0, none⟩)] encT KeepsWalks (fun ys => ys.Perm (L.map (·.1))) (fun pre => ∃ rest, (pre ++ rest).Perm (L.map (·.1))) L.length w := fun l J Jx W hW hJ hJx hY h0 =>
    keysT1_in Fence.wide 5 trivial rfl (by omega) l Bn b L J Jx W hJ (hm.same (hW.block b hbl)) ((hW.cell (p := ⟨Bn, 0, none⟩) hBl).trans hBn) hY h0
  have cC := collectT_in Fence.wide 7 trivial trivial rfl (by omega) KeysT1 #[.pointer (some ⟨Bn, 0, none⟩)] trivial (enters_of Tryz.func66 (by kernel_rfl) rfl) _ _ L.length hlen w w (Below.refl _ _) hseq
  have hfC : Fence.wide.fn 64 := trivial
  have hfS : Fence.wide.fn 65 := trivial
  have hLL : L.length = rs.length := by have := congrArg List.length hL; simpa using this
  rw [hL] at cC
  clear hseq hm hBn hL
  unfold SortedFT
  refine callsIn_of_wp Tryz.func29 rfl trivial ?_ rfl
  simp only [Tryz.ntmps29, List.size_toArray, List.length_cons, List.length_nil, Nat.reduceAdd, Nat.reduceSub, Array.replicate_succ, Array.replicate_zero, List.push_toArray, List.append_toArray, List.nil_append, List.cons_append]
  gi_wp2_with (gi_at_call 64; refine cC.mono ?_; rintro e W ⟨v, ss, rfl, hS, hrow, hnil, hb⟩)
  obtain ⟨hss, hpm⟩ := tid_back hS
  obtain ⟨d, hd⟩ : ∃ d, d = ss.map (·.r) := ⟨_, rfl⟩
  rw [← hd] at hss hpm
  have hsort : sortBy cmpI d = sortBy cmpI rs := sortBy_eq swoI totI hpm
  have hdl : d.length = rs.length := hpm.length_eq
  have hsl : ss.length = rs.length := by rw [hss, List.length_map, hdl]
  rw [hsl, hss, cells_tid] at hrow
  have HD := hid hd
  clear hss hd
  rcases hrow.2 with ⟨rfl, hz⟩ | ⟨gb, cap, cur, rfl, hbase, hgb, r1, r2, r3, r4⟩
  · have hrs : rs = [] := List.eq_nil_of_length_eq_zero hz
    subst hrs
    have cN : CallsIn Fence.wide 7 Tryz.prog 65 #[.slice none 0 0, .func (.func Tickets1) #[] #[]] W fun e w' => e = .returned (.tuple #[]) ∧ w' = W := callsIn_wide.2 (AnyF.slices_SortFunc_none sortT none 0 _ W)
    gi_wp2_with (gi_at_call 65; refine cN.mono ?_; rintro e w' ⟨rfl, rfl⟩)
    go_ret
    refine ⟨_, rfl, ?_, hb⟩
    have hdn : d = [] := List.eq_nil_of_length_eq_zero hdl
    rw [cells_tid, ← hsort, HD.out]
    rw [HD.out] at hdn
    have e0 : sortBy cmpI (ss.map (·.r)) = [] := by
      have := (sortBy_perm cmpI (ss.map (·.r))).length_eq
      rw [hdn] at this ⊢
      exact List.eq_nil_of_length_eq_zero this
    rw [e0]
    rw [HD.out, hdn] at hrow
    exact hrow
  · have hda : d.toArray.size = rs.length := by simpa using hdl
    have hH : HoldsK (encS c) 2 W gb 0 d.toArray := holdsK_of_owns (enc := encS c) (k := 2) (fun _ => rfl) d.toArray hda hrow
    have hgl : gb < W.heap.size := (Array.getElem?_eq_some_iff.1 hgb).1
    have cS : CallsIn Fence.wide 7 Tryz.prog 65 #[.slice (some ⟨gb, 0, none⟩) d.toArray.size cap, .func (.func Tickets1) #[] #[]] W fun e w' => e = .returned (.tuple #[]) ∧ ∃ n os, w' = sortWorldK (encS c) 2 W gb 0 n (sortBy cmpI d).toArray os :=
      callsIn_wide.2 (AnyQ.slices_SortFunc_total sortT 2 Tryz.isAgg35 Tryz.sizeOf35 (encS c) (fun _ => rfl) (fun x v hv => by simp [encS] at hv; rcases hv with rfl | rfl <;> rfl) cmpI swoI Tickets1 #[] gb 0 cap d.toArray W (enters_of Tryz.func31 (by kernel_rfl) rfl) (cmpT_lays c gb 0 _ W) hH hgl (by rw [hda]; omega) totI)
    rw [hda] at cS
    gi_wp2_with (gi_at_call 65; refine cS.mono ?_; rintro e w' ⟨rfl, nn, os, rfl⟩)
    go_ret
    refine ⟨_, rfl, ?_, ?_⟩
    · have := ownsRow_sortedK (m := nn) (os := os) (enc := encS c) (fun _ => rfl) (sortBy cmpI d).toArray (by have := (sortBy_perm cmpI d).length_eq; simpa [hdl] using this) _ hrow
      rw [cells_tid, ← hsort]
      exact this
    · exact hb.grown (swk_grown ⟨nn, os, rfl⟩) hb.size (fun j hj => by cases hj; exact hbase)
end Go.Proofs.YtifapcpcemigdaaGreat
end
section
namespace Go.Proofs.YtifapcpcemigdaaGreat
open Go.RowKit Go.Lib Go.Tk Go.Shelf Go.Maps
attribute [local go_sem] Oper.semAt_some
end Go.Proofs.YtifapcpcemigdaaGreat
end
section
namespace Go.Proofs.YtifapcpcemigdaaGreat
open Go.RowKit Go.Lib Go.Tk Go.Shelf Go.Maps
attribute [local go_sem] Oper.semAt_some
attribute [-go_sem] loadCellsFrom
def kBox (W : World) (B : Nat) (x : Kid) : Prop := W.heap[B]? = some (.cells #[.int .u8 x.t.c, .int .u64 x.t.r, .int .u8 x.i] 39 (0, 0))
theorem kBox.kept {W W' : World} {row : Option Nat} {B : Nat} {x : Kid} (h : kBox W B x) (hg : W.grownBy W' row) (hr : ∀ r, row = some r → ∃ o : Obj, W.heap[r]? = some o ∧ o.isCells = false) : kBox W' B x :=
  (hg.block B (Array.getElem?_eq_some_iff.1 h).1 (fun e => by
    obtain ⟨o, ho, hc⟩ := hr B e.symm
    rw [show W.heap[B]? = _ from h] at ho
    cases ho
    cases hc)).trans h
end Go.Proofs.YtifapcpcemigdaaGreat
end
section
namespace Go.Proofs.YtifapcpcemigdaaGreat
open Go.RowKit Go.Lib Go.Tk Go.Shelf Go.Maps Go.Sort
end Go.Proofs.YtifapcpcemigdaaGreat
end
section
namespace Go.Proofs.YtifapcpcemigdaaGreat
open Go.RowKit Go.Lib Go.Tk Go.Shelf Go.Maps Go.Sort
end Go.Proofs.YtifapcpcemigdaaGreat
end
section
namespace Go.Proofs.YtifapcpcemigdaaGreat
open Go.RowKit Go.Lib Go.Tk Go.Shelf Go.Maps Go.Sort
end Go.Proofs.YtifapcpcemigdaaGreat
end
section
namespace Go.Proofs.YtifapcpcemigdaaGreat
open Go.RowKit Go.Lib Go.Tk Go.Shelf Go.Maps Go.Sort
end Go.Proofs.YtifapcpcemigdaaGreat
end
section
namespace Go.Proofs.YtifapcpcemigdaaGreat
open Go.RowKit Go.Lib Go.Tk Go.Shelf Go.Vc Go.Sx Go.Maps
theorem mem_owns {cs : List Chunk} {w w' : World} (h : Mem cs w) (hb : Below w.heap.size w w') {E : TypeId} {size n : Nat} {v : Value} {xs : List Value} (ho : w'.ownsRow w.heap.size E size v n xs) : Mem (rowC E size v n xs :: cs) w' := by
  refine h.fresh hb (fun k => v.ownBlock = some k) ⟨fun g hg => hg, ho.1, ?_⟩ (fun k hk => ho.lt k hk)
  rcases ho.2 with h1 | ⟨g, cap, cur, hv, hbase, hgb, r1, r2, r3, r4⟩
  · exact .inl h1
  · exact .inr ⟨g, cap, cur, hv, ⟨E, (0, 0), (fun _ h => by cases h; rfl), hgb, noFz_none _⟩, r1, r2, r3, r4⟩
theorem sortedT_c (F : CF) {L : List (Tid × Value)} {c : Int} {rs : List Int} (hF : ∀ b v S w, (F b v).at_ S w → MapAt tidK w b L) (hL : L.map (·.1) = rs.map (Tid.mk c)) (hlen : L.length ≤ 1000000000) :
    CallOK Tryz.prog SortedFT [.fn (.func KeysT1) [] [.ptr 0 5 0], .fn (.func Tickets1) [] []] [((0, 1), .fam F)] [((0, 5), .box none [.map 0 1])] (.raw 1 0) [((0, 5), .box none [.map 0 1]), ((1, 0), .row 35 2 rs.length (.shal (cellsL tcL ((sortBy cmpI rs).map (Tid.mk c)))) [])] := by
  intro ε R w hM
  have hM : Mem (F (ε 0 1).1 (ε 0 1).2 :: boxE none (ε 0 5).1 #[.map (some (ε 0 1).1)] :: R) w := hM
  have hm : MapAt tidK w (ε 0 1).1 L := hM.of 0 rfl (fun S hS => hF _ _ _ _ hS)
  have hc : w.cell? ⟨(ε 0 5).1, 0, none⟩ = some (.map (some (ε 0 1).1)) := (hM.box 1 rfl).cell 0 rfl
  refine (sortedT_any (ε 0 5).1 (ε 0 1).1 L c rs hL w hm hc hlen).mono ?_
  rintro e w' ⟨v, rfl, hrow, hb⟩
  obtain ⟨va, vc, rfl, -, -, -⟩ := own_slice hrow
  have h1 := ((mem_owns hM hb hrow).front 2 rfl).front 2 rfl
  have e1 : ∀ x : Nat → Nat × Value, eset ε 1 x 1 = x := fun x => by simp [eset]
  have e0 : ∀ x : Nat → Nat × Value, eset ε 1 x 0 = ε 0 := fun x => eset_ne (by decide)
  refine ⟨fun _ => (0, .slice va rs.length vc), by simp only [SV.den]; rw [e1]; rfl, ?_⟩
  show Mem (F (eset ε 1 _ 0 1).1 (eset ε 1 _ 0 1).2 :: boxE none (eset ε 1 _ 0 5).1 #[.map (some (eset ε 1 _ 0 1).1)] :: rowC 35 2 (asSl (eset ε 1 _ 1 0).2) rs.length _ :: R) w'
  rw [e1, e0]
  exact h1
def KeysTF : Nat := 30
theorem keysT_c : CallOK Tryz.prog KeysTF [.map 0 1] [] [] (.fn (.func KeysT1) [] [.ptr 1 0 0]) [((1, 0), .box none [.map 0 1])] := callOK_run 400 [] (by kernel_rfl) (by kernel_rfl)
def TicketsF : Nat := 12
theorem tickets_w (F : CF) (B : BookV) {L : List (Tid × Value)} {c : Int} {rs : List Int} (hF : ∀ b v S w, (F b v).at_ S w → MapAt tidK w b L) (hL : L.map (·.1) = rs.map (Tid.mk c)) (hlen : L.length ≤ 1000000000) :
    CallOK Tryz.prog TicketsF [.ptr 0 0 0] (bkH F B) [] (.raw 1 0) [((1, 0), .row 35 2 rs.length (.shal (cellsL tcL ((sortBy cmpI rs).map (Tid.mk c)))) [])] := by
  have c1 := keysT_c
  have c2 := sortedT_c F hF hL hlen
  exact callOK_run 400 [hC 3 4 c1, hC 3 5 c2] (by kernel_rfl) (by kernel_rfl)
end Go.Proofs.YtifapcpcemigdaaGreat
end
