/- Ky2, Ky3, KyS. -/
import Derived.Test.YtlekbdpdlalhbaaMac4cef3
import Derived.Test.YtlekbdpdlalhbaaM0eb6659
import Derived.RangeFuncFrom
import Derived.RangeFuncWrites
import Derived.RangeFuncNested
import Derived.Test.YtlekbdpdlalhbaaMb6a2934
import Derived.Test.YtlekbdpdlalhbaaM009d203
import Derived.Sort.OwnSorted
import Derived.Test.YtlekbdpdlalhbaaMfa6bb7c
import Derived.Shelf.SlLaysF0
section
namespace Go.Proofs.Ytlekbdpdlalhbaa
set_option maxRecDepth 100000
open Go.RowKit Go.Lib Go.Tk Go.Shelf Go.Maps
attribute [local go_sem] Oper.semAt_some
attribute [-go_sem] loadCellsFrom
def tcL (x : Tid) : List Value := [.int .u8 x.c, .int .u64 x.r]
theorem tkrow : (Try.prog.info? 35).map (fun i => (i.zero, i.size, i.bytes)) = some (some (.agg #[.int .u8 0, .int .u64 0]), 2, 16) := by kernel_rfl
def tBox (W : World) (B : Nat) (x : Tid) : Prop := W.heap[B]? = some (.cells #[.int .u8 x.c, .int .u64 x.r] 35 (0, 0))
theorem tBox.kept {W W' : World} {row : Option Nat} {B : Nat} {x : Tid} (h : tBox W B x) (hg : W.grownBy W' row) (hr : ∀ r, row = some r → ∃ o : Obj, W.heap[r]? = some o ∧ o.isCells = false) : tBox W' B x :=
  (hg.block B (Array.getElem?_eq_some_iff.1 h).1 (fun e => by
    obtain ⟨o, ho, hc⟩ := hr B e.symm
    rw [show W.heap[B]? = _ from h] at ho
    cases ho
    cases hc)).trans h

set_option maxHeartbeats 8000000 in
theorem appendT_in (F : Fence) (n : Nat) (hF : F.fn 83) (hro : F.round = none) (hn : 3 ≤ n) (gf : Nat) (lb : Array Value) (hFg : F.fn gf) (eg : ∀ args w, (callFunc gf args).run Try.prog w = .ok (.enter gf args) w)
    (S Sp : List Tid → Prop) (N : Nat) (hN : N ≤ 1000000000) (w w0 : World) (hb0 : Below w0.heap.size w0 w) (hseq : SeqStopsK F (n - 1) Try.prog gf lb encT KeepsWalks S Sp N w0) :
    CallsIn F n Try.prog 83 #[.slice none 0 0, .func (.func gf) #[] lb] w fun e w' => ∃ v ss, e = .returned v ∧ S ss ∧ w'.ownsRow w.heap.size 35 2 v ss.length (cellsL tcL ss) ∧ (v = .slice none 0 0 ↔ ss = []) ∧ Below w.heap.size w w' := by
  have h1 : 1 ≤ n := by omega
  refine callsIn_of_wp_marks Try.func83 rfl hF ?_ hro
  simp only [Try.ntmps83, List.size_toArray, List.length_cons, List.length_nil, Nat.reduceAdd, Nat.reduceSub, Array.replicate_succ, Array.replicate_zero, List.push_toArray, List.append_toArray, List.nil_append, List.cons_append]
  gi_wp2
  have bO := Boxed.new w 59 (.slice none 0 0)
  have hB0 : Below w.heap.size w (w.alloc (.cells #[.slice none 0 0] 59)) := (Below.refl _ w).alloc (Nat.le_refl _) _
  have hI1 := Own.from (holdsRow_own w.heap.size w.heap.size 59 35 2 (fun pre : List Tid => pre.length) (fun pre => cellsL tcL pre) (fun pre v => v = .slice none 0 0 ↔ pre = [])) (w.alloc (.cells #[.slice none 0 0] 59)).heap.size
  have hI2 : OwnFrom (w.alloc (.cells #[.slice none 0 0] 59)).heap.size (fun (_ : List Tid) W => Below w.heap.size w W) := ownFrom_below (Nat.le_refl _) (by simp)
  refine wpIn_rangeFunc_ownH hro h1 (gf := gf) (lb := lb) rfl hFg eg hseq (fun h k => walksK_t h k) (fun W l o o' h1 h2 h3 h4 => walksK_b (w := w.alloc (.cells #[.slice none 0 0] 59)) W l o o' h1 h2 h3 h4) (hb0.trans (hB0.mono hb0.size)) (fun _ => rfl)
    (fun pre W => (∃ v, Boxed W w.heap.size 59 v ∧ W.ownsRow w.heap.size 35 2 v pre.length (cellsL tcL pre) ∧ (v = .slice none 0 0 ↔ pre = [])) ∧ Below w.heap.size w W)
    (fun _ _ _ => False)
    (OwnFrom.and hI1 hI2)
    (fun _ _ _ _ _ hs _ _ => hs)
    ⟨⟨_, bO, World.ownsRow_nil _ _ _ _, by simp⟩, hB0⟩
    (fun x a' W => ∃ B, tBox W B x ∧ a' = { tmps := #[.slice none 0 0, .func (.func gf) #[] lb, .pointer (some ⟨w.heap.size, 0, none⟩), undef, .slice none 0 0, .pointer (some ⟨B, 0, none⟩), .func (.func gf) #[] lb, tidV x, undef, undef, undef, undef, undef], defers := [] })
    (fun x a' => Own.from (fun _ _ _ _ hs hg hr => by obtain ⟨B, h1, h2⟩ := hs; exact ⟨B, h1.kept hg hr, h2⟩) _) ?assign ?body ?done ?stop
  case assign =>
    intro l pre x W K hI hK
    simp only [encT, show tidV x = .agg #[.int .u8 x.c, .int .u64 x.r] from rfl]
    gi_wp2
    obtain ⟨⟨v, hv, hrow, hn⟩, hB⟩ := hI
    exact hK _ _ ((KeepsOthers.alloc W _).from _) (KeepsWalks.alloc W _) ⟨⟨v, hv.alloc _, World.ownsRow.alloc hrow _, hn⟩, hB.alloc hB.size _⟩ ⟨W.heap.size, World.alloc_heap_new W _, rfl⟩
  case stop =>
    rintro D c pre W _ _ h _
    exact h.elim
  case done =>
    rintro D ys W hD hS ⟨⟨v, hv, hrow, hn⟩, hB⟩ hK
    have hc := hv.cell
    gi_wp2
    refine ⟨by simp, .inl ⟨_, _, rfl, run_takeDeferred hK, ?_⟩⟩
    exact ⟨_, results_tmp rfl _ _ _, v, ys, rfl, hS, ownsRow_putObj hrow _ hK rfl, hn, hB.grown (grownBy_putObj' W D _) hB.size (fun k e => by cases e; simp at hD; omega)⟩
  case body =>
    rintro l pre x a' W hl hlo ⟨⟨v, hv, hrow, hn⟩, hB⟩ ⟨B, hbx, rfl⟩ hlt
    have hc0 := hv.cell
    have hf0 := hv.frozen
    have cA : W.cell? ⟨B, 0, none⟩ = some (.int .u8 x.c) := by simp [World.cell?, show W.heap[B]? = _ from hbx]
    have cB : W.cell? ⟨B, 1, none⟩ = some (.int .u64 x.r) := by simp [World.cell?, show W.heap[B]? = _ from hbx]
    have ld : Sem.run Try.prog (loadCellsFrom ⟨B, 0, none⟩ 0 2 #[]) W = .ok #[.int .u8 x.c, .int .u64 x.r] W := run_loadCellsFrom_list Try.prog W ⟨B, 0, none⟩ (tcL x) 2 rfl (fun i u hi => by
      rcases i with _ | _ | i
      · exact cA.trans hi
      · exact cB.trans hi
      · cases hi)
    obtain ⟨i0, hi, hz0, hz1, hz2⟩ := info_parts tkrow
    obtain ⟨va, vc, rfl, -, -, -⟩ := own_slice hrow
    have hsz : w.heap.size ≤ W.heap.size := hB.size
    have hone : ∀ v ∈ tcL x, v.oneCell' = true := by intro v hv; simp [tcL] at hv; rcases hv with rfl | rfl <;> rfl
    have hcl : ∀ (j : Nat) (u : Value), (tcL x)[j]? = some u → (W.alloc (.cells #[.int .u8 x.c, .int .u64 x.r] 35)).cell? ((Addr.mk W.heap.size 0 none).add j) = some u := fun i u hi => by
        rcases i with _ | _ | i
        · exact (cell_new (w := W) (b := W.heap.size) rfl).trans hi
        · exact (cell_new (w := W) (b := W.heap.size) rfl).trans hi
        · cases hi
    gi_wp2_with (first
      | (gi_at_builtin; refine wpListIn_append_own _ rfl _ _ 59 rfl w.heap.size 35 i0 _ 2 16 Try.underlying59 hi hz0 hz1 hz2 rfl (by decide) _ _ _ rfl (World.ownsRow.alloc hrow _) ⟨W.heap.size, 0, none⟩ 1 1 (tcL x) rfl rfl hcl hone (by unfold maxLen; omega) (by omega) (by simp; omega) ?_
         intro v' w' hown' hgrow' hnil'
         obtain ⟨g', cap', rfl⟩ := ownsRow_succ hown'
         obtain ⟨hv1, hv2, hr2, hkk, hbb⟩ := hv.appended (n₀ := w.heap.size) (by decide) hrow hsz (Nat.le_refl _) hown' hgrow'
         have q1 := hv1.cell
         have q2 := hv1.frozen
         go_frame)
      | gi_in)
    refine ⟨hkk.from _, hkk.walks, ⟨_, hv2, ?_, by simp⟩, hB.trans hbb⟩
    rw [List.length_append, cellsL_snoc]
    exact hr2
end Go.Proofs.Ytlekbdpdlalhbaa
end
section
namespace Go.Proofs.Ytlekbdpdlalhbaa
set_option maxRecDepth 100000
open Go.RowKit Go.Lib Go.Tk Go.Shelf Go.Maps Go.Sort
section
variable {α : Type} [Inhabited α] {enc : α → List Value} {k : Nat}
theorem ownsRow_sortedK {w : World} {base g cap n : Nat} {e : TypeId} {m : Nat} {os : Array Obj} (hk : ∀ x, (enc x).length = k) (d' : Array α) (hn : d'.size = n) (xs : List Value)
    (h : w.ownsRow base e k (.slice (some ⟨g, 0, none⟩) n cap) n xs) : (sortWorldK enc k w g 0 m d' os).ownsRow base e k (.slice (some ⟨g, 0, none⟩) n cap) n (cellsL enc d'.toList) := by
  subst hn
  rcases h.2 with ⟨h0, _⟩ | ⟨g2, cap2, cur, heq, hbase, hgb, h1, h2, h3, h4⟩
  · cases h0
  · simp only [Value.slice.injEq, Option.some.injEq, Addr.mk.injEq, true_and, and_true] at heq
    obtain ⟨rfl, rfl⟩ := heq
    have hg : g < w.heap.size := (Array.getElem?_eq_some_iff.1 hgb).1
    have hl : (cellsL enc d'.toList).length = d'.size * k := flat_len hk d'
    have hcs : d'.size * k ≤ cur.size := by rw [h3]; exact Nat.mul_le_mul_right k h1
    refine ⟨hl, .inr ⟨g, cap, putCells id 0 (flatK enc k d') cur, rfl, hbase, ?_, h1, h2, by simp [putCells, h3], ?_⟩⟩
    · unfold sortWorldK putRowK
      rw [heap_grow_old _ _ (by simpa using hg)]
      simp [putRow, mapBlock, Sort.ahead, Array.getElem?_modify, hgb, onCells]
    · apply List.ext_getElem?
      intro j
      by_cases hj : j < d'.size * k
      · rw [List.getElem?_take_of_lt hj, Array.getElem?_toList]
        have e1 := flat_get hk d' j hj
        have e2 : (cellsL enc d'.toList)[j]? = some ((cellsL enc d'.toList).getD j undef) := by
          rw [List.getD_eq_getElem?_getD, List.getElem?_eq_getElem (by rw [hl]; exact hj)]; rfl
        rw [e2]
        show _ = some (((d'.toList.map enc).flatten).getD j undef)
        rw [e1]
        simp [putCells, hj, show j < cur.size by omega]
      · rw [List.getElem?_take_eq_none (by omega), List.getElem?_eq_none (by rw [hl]; omega)]
end
set_option maxHeartbeats 400000 in
theorem compareU_any (a b : Int) (w : World) : Calls Try.prog 39 #[.int .u64 a, .int .u64 b] w fun e w' => e = .returned (.int .i64 (cmpI a b)) ∧ w = w' := by
  have h63 : ∀ (x : Int) (w : World), Calls Try.prog 69 #[.int .u64 x] w fun e w' => e = .returned (.bool false) ∧ w = w' := by
    intro x w
    go_enter Try.func69, Try.ntmps69
    go_wp2
    go_ret
    exact ⟨rfl, rfl⟩
  have H := hid h63
  clear h63
  rcases Int.lt_trichotomy a b with h | rfl | h
  · have F : Hid (cmpI a b = -1) := by unfold Hid cmpI; rw [if_pos h]
    go_enter Try.func39, Try.ntmps39
    go_wp2_with (go_at_call 69; refine (H.out _ _).mono ?_; rintro e w' ⟨rfl, rfl⟩)
    go_ret
    exact ⟨ret_i (by rw [F.out]), rfl⟩
  · have F : Hid (cmpI a a = 0) := by unfold Hid cmpI; simp
    go_enter Try.func39, Try.ntmps39
    go_wp2_with (go_at_call 69; refine (H.out _ _).mono ?_; rintro e w' ⟨rfl, rfl⟩)
    go_ret
    exact ⟨ret_i (by rw [F.out]), rfl⟩
  · have F : Hid (cmpI a b = 1) := by unfold Hid cmpI; rw [if_neg (by omega), if_pos h]
    go_enter Try.func39, Try.ntmps39
    go_wp2_with (go_at_call 69; refine (H.out _ _).mono ?_; rintro e w' ⟨rfl, rfl⟩)
    go_ret
    exact ⟨ret_i (by rw [F.out]), rfl⟩
/-- the comparison of two tickets of one carrier -/
def encS (c : Int) (r : Int) : List Value := [.int .u8 c, .int .u64 r]
set_option maxHeartbeats 400000 in
theorem tickets1_any (c x y : Int) (w : World) :
    Calls Try.prog 38 #[.agg (encS c x).toArray, .agg (encS c y).toArray] w fun e w' => e = .returned (.int .i64 (cmpI x y)) ∧ (w.alloc (.cells (encS c x).toArray 35)).alloc (.cells (encS c y).toArray 35) = w' := by
  simp only [encS]
  go_enter Try.func38, Try.ntmps38
  go_wp2_with (go_at_call 39; refine (compareU_any _ _ _).mono ?_; rintro e w' ⟨rfl, rfl⟩)
  go_ret
  exact ⟨rfl, rfl⟩
theorem cmpT_lays (c : Int) (blk off size : Nat) (w : World) : CmpLays Try.prog 38 #[] (encS c) 2 cmpI blk off size w := by
  intro m os dk _ x y
  refine (tickets1_any c x y _).mono ?_
  rintro e w' ⟨rfl, rfl⟩
  refine ⟨rfl, 0, #[.cells (encS c x).toArray 35, .cells (encS c y).toArray 35], ?_⟩
  rfl
theorem ltI (x y : Int) : ltOf cmpI x y = decide (x < y) := by
  unfold ltOf cmpI
  by_cases h1 : x < y
  · simp [h1]
  · by_cases h2 : y < x <;> simp [h1, h2]
theorem swoI : SWO (ltOf cmpI) where
  irrefl x := by rw [ltI]; simp
  trans x y z h1 h2 := by rw [ltI] at *; simp at *; omega
  ntrans x y z h1 h2 := by rw [ltI] at *; simp at *; omega
theorem totI (x y : Int) (h1 : ltOf cmpI x y = false) (h2 : ltOf cmpI y x = false) : x = y := by
  rw [ltI] at h1 h2; simp at h1 h2; omega
end Go.Proofs.Ytlekbdpdlalhbaa
end
section
namespace Go.Proofs.Ytlekbdpdlalhbaa
set_option maxRecDepth 100000
open Go.RowKit Go.Lib Go.Tk Go.Shelf

def sortT_ren : Go.Shelf.Ren := ⟨fun | 6 => 67 | 15 => 85 | 28 => 100 | 29 => 101 | 47 => 113 | 48 => 114 | 14 => 84 | 20 => 92 | 21 => 93 | 22 => 94 | 23 => 95 | 24 => 96 | 25 => 97 | 26 => 98 | 27 => 99 | 46 => 112 | 49 => 115 | 50 => 116 | 57 => 121 | n => n, fun | 22 => 59 | 24 => 35 | 25 => 105 | 3 => 3 | 39 => 156 | 0 => 0 | 53 => 45 | 55 => 28 | 4 => 4 | 46 => 170 | 45 => 169 | 50 => 174 | 5 => 5 | 9 => 9 | 66 => 183 | 70 => 187 | 76 => 191 | 77 => 192 | n => n, fun n => n⟩
theorem sortT : SlLaysF0.n6 Try.prog sortT_ren where
  mixed := by kernel_rfl
  f6 := ⟨ "slices.SortFunc[[]tarmac/api.Ticket,tarmac/api.Ticket]", by decide, Try.func67.trans (congrArg some (by kernel_rfl))⟩
  f14 := ⟨ "slices.pdqsortCmpFunc[tarmac/api.Ticket]", by decide, Try.func84.trans (congrArg some (by kernel_rfl))⟩
  f15 := Try.func85.trans (congrArg some (by kernel_rfl))
  f20 := ⟨ "slices.insertionSortCmpFunc[tarmac/api.Ticket]", by decide, Try.func92.trans (congrArg some (by kernel_rfl))⟩
  f21 := ⟨ "slices.heapSortCmpFunc[tarmac/api.Ticket]", by decide, Try.func93.trans (congrArg some (by kernel_rfl))⟩
  f22 := ⟨ "slices.breakPatternsCmpFunc[tarmac/api.Ticket]", by decide, Try.func94.trans (congrArg some (by kernel_rfl))⟩
  f23 := ⟨ "slices.choosePivotCmpFunc[tarmac/api.Ticket]", by decide, Try.func95.trans (congrArg some (by kernel_rfl))⟩
  f24 := ⟨ "slices.reverseRangeCmpFunc[tarmac/api.Ticket]", by decide, Try.func96.trans (congrArg some (by kernel_rfl))⟩
  f25 := ⟨ "slices.partialInsertionSortCmpFunc[tarmac/api.Ticket]", by decide, Try.func97.trans (congrArg some (by kernel_rfl))⟩
  f26 := ⟨ "slices.partitionEqualCmpFunc[tarmac/api.Ticket]", by decide, Try.func98.trans (congrArg some (by kernel_rfl))⟩
  f27 := ⟨ "slices.partitionCmpFunc[tarmac/api.Ticket]", by decide, Try.func99.trans (congrArg some (by kernel_rfl))⟩
  f28 := Try.func100.trans (congrArg some (by kernel_rfl))
  f29 := Try.func101.trans (congrArg some (by kernel_rfl))
  f46 := ⟨ "slices.siftDownCmpFunc[tarmac/api.Ticket]", by decide, Try.func112.trans (congrArg some (by kernel_rfl))⟩
  f47 := Try.func113.trans (congrArg some (by kernel_rfl))
  f48 := Try.func114.trans (congrArg some (by kernel_rfl))
  f49 := ⟨ "slices.medianAdjacentCmpFunc[tarmac/api.Ticket]", by decide, Try.func115.trans (congrArg some (by kernel_rfl))⟩
  f50 := ⟨ "slices.medianCmpFunc[tarmac/api.Ticket]", by decide, Try.func116.trans (congrArg some (by kernel_rfl))⟩
  f57 := ⟨ "slices.order2CmpFunc[tarmac/api.Ticket]", by decide, Try.func121.trans (congrArg some (by kernel_rfl))⟩
  t0 := Try.underlying0
  a0 := Try.isAgg0
  z0 := Try.sizeOf0
  v0 := Try.zeroValue0
  t3 := Try.underlying3
  a3 := Try.isAgg3
  z3 := Try.sizeOf3
  v3 := Try.zeroValue3
  t4 := Try.underlying4
  a4 := Try.isAgg4
  z4 := Try.sizeOf4
  v4 := Try.zeroValue4
  t5 := Try.underlying5
  a5 := Try.isAgg5
  z5 := Try.sizeOf5
  v5 := Try.zeroValue5
  t9 := Try.underlying9
  a9 := Try.isAgg9
  z9 := Try.sizeOf9
  v9 := Try.zeroValue9
  t22 := Try.underlying59
  a22 := Try.isAgg59
  z22 := Try.sizeOf59
  v22 := Try.zeroValue59
  t25 := Try.underlying105
  a25 := Try.isAgg105
  z25 := Try.sizeOf105
  v25 := Try.zeroValue105
  t39 := Try.underlying156
  a39 := Try.isAgg156
  z39 := Try.sizeOf156
  v39 := Try.zeroValue156
  t45 := Try.underlying169
  a45 := Try.isAgg169
  z45 := Try.sizeOf169
  v45 := Try.zeroValue169
  t46 := Try.underlying170
  a46 := Try.isAgg170
  z46 := Try.sizeOf170
  v46 := Try.zeroValue170
  t50 := Try.underlying174
  a50 := Try.isAgg174
  z50 := Try.sizeOf174
  v50 := Try.zeroValue174
  t53 := Try.underlying45
  a53 := Try.isAgg45
  z53 := Try.sizeOf45
  v53 := Try.zeroValue45
  t55 := Try.underlying28
  a55 := Try.isAgg28
  z55 := Try.sizeOf28
  v55 := Try.zeroValue28
  t66 := Try.underlying183
  a66 := Try.isAgg183
  z66 := Try.sizeOf183
  v66 := Try.zeroValue183
  t70 := Try.underlying187
  a70 := Try.isAgg187
  z70 := Try.sizeOf187
  v70 := Try.zeroValue187
  t76 := Try.underlying191
  a76 := Try.isAgg191
  z76 := Try.sizeOf191
  v76 := Try.zeroValue191
  t77 := Try.underlying192
  a77 := Try.isAgg192
  z77 := Try.sizeOf192
  v77 := Try.zeroValue192
def sortK_ren : Go.Shelf.Ren := ⟨fun | 6 => 71 | 15 => 85 | 28 => 100 | 29 => 101 | 47 => 113 | 48 => 114 | 14 => 87 | 20 => 102 | 21 => 103 | 22 => 104 | 23 => 105 | 24 => 106 | 25 => 107 | 26 => 108 | 27 => 109 | 46 => 117 | 49 => 118 | 50 => 119 | 57 => 122 | n => n, fun | 22 => 70 | 24 => 56 | 25 => 113 | 3 => 3 | 39 => 156 | 0 => 0 | 53 => 45 | 55 => 28 | 4 => 4 | 46 => 170 | 45 => 169 | 50 => 174 | 5 => 5 | 9 => 9 | 66 => 183 | 70 => 187 | 76 => 191 | 77 => 192 | n => n, fun n => n⟩
theorem sortK : SlLaysF0.n6 Try.prog sortK_ren where
  mixed := by kernel_rfl
  f6 := ⟨ "slices.SortFunc[[]tarmac/api.Key,tarmac/api.Key]", by decide, Try.func71.trans (congrArg some (by kernel_rfl))⟩
  f14 := ⟨ "slices.pdqsortCmpFunc[tarmac/api.Key]", by decide, Try.func87.trans (congrArg some (by kernel_rfl))⟩
  f15 := Try.func85.trans (congrArg some (by kernel_rfl))
  f20 := ⟨ "slices.insertionSortCmpFunc[tarmac/api.Key]", by decide, Try.func102.trans (congrArg some (by kernel_rfl))⟩
  f21 := ⟨ "slices.heapSortCmpFunc[tarmac/api.Key]", by decide, Try.func103.trans (congrArg some (by kernel_rfl))⟩
  f22 := ⟨ "slices.breakPatternsCmpFunc[tarmac/api.Key]", by decide, Try.func104.trans (congrArg some (by kernel_rfl))⟩
  f23 := ⟨ "slices.choosePivotCmpFunc[tarmac/api.Key]", by decide, Try.func105.trans (congrArg some (by kernel_rfl))⟩
  f24 := ⟨ "slices.reverseRangeCmpFunc[tarmac/api.Key]", by decide, Try.func106.trans (congrArg some (by kernel_rfl))⟩
  f25 := ⟨ "slices.partialInsertionSortCmpFunc[tarmac/api.Key]", by decide, Try.func107.trans (congrArg some (by kernel_rfl))⟩
  f26 := ⟨ "slices.partitionEqualCmpFunc[tarmac/api.Key]", by decide, Try.func108.trans (congrArg some (by kernel_rfl))⟩
  f27 := ⟨ "slices.partitionCmpFunc[tarmac/api.Key]", by decide, Try.func109.trans (congrArg some (by kernel_rfl))⟩
  f28 := Try.func100.trans (congrArg some (by kernel_rfl))
  f29 := Try.func101.trans (congrArg some (by kernel_rfl))
  f46 := ⟨ "slices.siftDownCmpFunc[tarmac/api.Key]", by decide, Try.func117.trans (congrArg some (by kernel_rfl))⟩
  f47 := Try.func113.trans (congrArg some (by kernel_rfl))
  f48 := Try.func114.trans (congrArg some (by kernel_rfl))
  f49 := ⟨ "slices.medianAdjacentCmpFunc[tarmac/api.Key]", by decide, Try.func118.trans (congrArg some (by kernel_rfl))⟩
  f50 := ⟨ "slices.medianCmpFunc[tarmac/api.Key]", by decide, Try.func119.trans (congrArg some (by kernel_rfl))⟩
  f57 := ⟨ "slices.order2CmpFunc[tarmac/api.Key]", by decide, Try.func122.trans (congrArg some (by kernel_rfl))⟩
  t0 := Try.underlying0
  a0 := Try.isAgg0
  z0 := Try.sizeOf0
  v0 := Try.zeroValue0
  t3 := Try.underlying3
  a3 := Try.isAgg3
  z3 := Try.sizeOf3
  v3 := Try.zeroValue3
  t4 := Try.underlying4
  a4 := Try.isAgg4
  z4 := Try.sizeOf4
  v4 := Try.zeroValue4
  t5 := Try.underlying5
  a5 := Try.isAgg5
  z5 := Try.sizeOf5
  v5 := Try.zeroValue5
  t9 := Try.underlying9
  a9 := Try.isAgg9
  z9 := Try.sizeOf9
  v9 := Try.zeroValue9
  t22 := Try.underlying70
  a22 := Try.isAgg70
  z22 := Try.sizeOf70
  v22 := Try.zeroValue70
  t25 := Try.underlying113
  a25 := Try.isAgg113
  z25 := Try.sizeOf113
  v25 := Try.zeroValue113
  t39 := Try.underlying156
  a39 := Try.isAgg156
  z39 := Try.sizeOf156
  v39 := Try.zeroValue156
  t45 := Try.underlying169
  a45 := Try.isAgg169
  z45 := Try.sizeOf169
  v45 := Try.zeroValue169
  t46 := Try.underlying170
  a46 := Try.isAgg170
  z46 := Try.sizeOf170
  v46 := Try.zeroValue170
  t50 := Try.underlying174
  a50 := Try.isAgg174
  z50 := Try.sizeOf174
  v50 := Try.zeroValue174
  t53 := Try.underlying45
  a53 := Try.isAgg45
  z53 := Try.sizeOf45
  v53 := Try.zeroValue45
  t55 := Try.underlying28
  a55 := Try.isAgg28
  z55 := Try.sizeOf28
  v55 := Try.zeroValue28
  t66 := Try.underlying183
  a66 := Try.isAgg183
  z66 := Try.sizeOf183
  v66 := Try.zeroValue183
  t70 := Try.underlying187
  a70 := Try.isAgg187
  z70 := Try.sizeOf187
  v70 := Try.zeroValue187
  t76 := Try.underlying191
  a76 := Try.isAgg191
  z76 := Try.sizeOf191
  v76 := Try.zeroValue191
  t77 := Try.underlying192
  a77 := Try.isAgg192
  z77 := Try.sizeOf192
  v77 := Try.zeroValue192
end Go.Proofs.Ytlekbdpdlalhbaa
end
