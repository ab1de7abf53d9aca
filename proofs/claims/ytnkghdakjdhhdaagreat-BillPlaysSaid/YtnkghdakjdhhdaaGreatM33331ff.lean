/- Ky2, Ky3, KyS, Ky4, Kk1. -/
import Derived.Test.YtnkghdakjdhhdaaGreatM3981284
import Derived.Test.YtnkghdakjdhhdaaGreatM64f4c37
import Derived.RangeFuncFrom
import Derived.RangeFuncWrites
import Derived.RangeFuncNested
import Derived.Test.YtnkghdakjdhhdaaGreatM528e2f7
import Derived.Test.YtnkghdakjdhhdaaGreatM20a089e
import Derived.Sort.OwnSorted
import Derived.Test.YtnkghdakjdhhdaaGreatM227826e
import Derived.Shelf.SlLaysF0
import Derived.Shelf.SlSortCmp.NoneTotal
import Derived.RangeFuncBox
import Derived.RangeFuncBound
import Derived.RangeFuncCalls
import Derived.RangeFuncLeaves
import Derived.RangeFuncGives
import Derived.RangeFuncKeeps
import Derived.Shelf.Abstract
import Derived.Shelf.RegionOpen
import Derived.WalkKit
import Derived.OwnWalkIn
import Derived.TacticsInMore
import Derived.LoopNIn
import Derived.LoopIn
import Derived.Sort.LoopGhostIn
set_option maxRecDepth 100000
set_option linter.unusedVariables false
set_option linter.unusedSimpArgs false
set_option linter.unusedSectionVars false
section
namespace Go.Proofs.YtnkghdakjdhhdaaGreat
open Go.RowKit Go.Lib Go.Tk Go.Shelf Go.Maps
attribute [local go_sem] Oper.semAt_some
attribute [-go_sem] loadCellsFrom
def tcL (x : Tid) : List Value := [.int .u8 x.c, .int .u64 x.r]
theorem tkrow : (Tryz.prog.info? 25).map (fun i => (i.zero, i.size, i.bytes)) = some (some (.agg #[.int .u8 0, .int .u64 0]), 2, 16) := by kernel_rfl
def tBox (W : World) (B : Nat) (x : Tid) : Prop := W.heap[B]? = some (.cells #[.int .u8 x.c, .int .u64 x.r] 25 (0, 0))
theorem tBox.kept {W W' : World} {row : Option Nat} {B : Nat} {x : Tid} (h : tBox W B x) (hg : W.grownBy W' row) (hr : ∀ r, row = some r → ∃ o : Obj, W.heap[r]? = some o ∧ o.isCells = false) : tBox W' B x :=
  (hg.block B (Array.getElem?_eq_some_iff.1 h).1 (fun e => by
    obtain ⟨o, ho, hc⟩ := hr B e.symm
    rw [show W.heap[B]? = _ from h] at ho
    cases ho
    cases hc)).trans h
set_option maxHeartbeats 8000000 in
theorem appendT_in (F : Fence) (n : Nat) (hF : F.fn 164) (hro : F.round = none) (hn : 3 ≤ n) (gf : Nat) (lb : Array Value) (hFg : F.fn gf) (eg : ∀ args w, (callFunc gf args).run Tryz.prog w = .ok (.enter gf args) w)
    (S Sp : List Tid → Prop) (N : Nat) (hN : N ≤ 1000000000) (w w0 : World) (hb0 : Below w0.heap.size w0 w) (hseq : SeqStopsK F (n - 1) Tryz.prog gf lb encT KeepsWalks S Sp N w0) :
    CallsIn F n Tryz.prog 164 #[.slice none 0 0, .func (.func gf) #[] lb] w fun e w' => ∃ v ss, e = .returned v ∧ S ss ∧ w'.ownsRow w.heap.size 25 2 v ss.length (cellsL tcL ss) ∧ (v = .slice none 0 0 ↔ ss = []) ∧ Below w.heap.size w w' := by
  have h1 : 1 ≤ n := by omega
  refine callsIn_of_wp_marks Tryz.func164 rfl hF ?_ hro
  simp only [Tryz.ntmps164, List.size_toArray, List.length_cons, List.length_nil, Nat.reduceAdd, Nat.reduceSub, Array.replicate_succ, Array.replicate_zero, List.push_toArray, List.append_toArray, List.nil_append, List.cons_append]
  gi_wp2
  have bO := Boxed.new w 94 (.slice none 0 0)
  have hB0 : Below w.heap.size w (w.alloc (.cells #[.slice none 0 0] 94)) := (Below.refl _ w).alloc (Nat.le_refl _) _
  have hI1 := Own.from (holdsRow_own w.heap.size w.heap.size 94 25 2 (fun pre : List Tid => pre.length) (fun pre => cellsL tcL pre) (fun pre v => v = .slice none 0 0 ↔ pre = [])) (w.alloc (.cells #[.slice none 0 0] 94)).heap.size
  have hI2 : OwnFrom (w.alloc (.cells #[.slice none 0 0] 94)).heap.size (fun (_ : List Tid) W => Below w.heap.size w W) := ownFrom_below (Nat.le_refl _) (by simp)
  refine wpIn_rangeFunc_ownH hro h1 (gf := gf) (lb := lb) rfl hFg eg hseq (fun h k => walksK_t h k) (fun W l o o' h1 h2 h3 h4 => walksK_b (w := w.alloc (.cells #[.slice none 0 0] 94)) W l o o' h1 h2 h3 h4) (hb0.trans (hB0.mono hb0.size)) (fun _ => rfl)
    (fun pre W => (∃ v, Boxed W w.heap.size 94 v ∧ W.ownsRow w.heap.size 25 2 v pre.length (cellsL tcL pre) ∧ (v = .slice none 0 0 ↔ pre = [])) ∧ Below w.heap.size w W)
    (fun _ _ _ => False)
    (OwnFrom.and hI1 hI2)
    (fun _ _ _ _ _ hs _ _ => hs)
    ⟨⟨_, bO, World.ownsRow_nil _ _ _ _, by simp⟩, hB0⟩
    (fun x a' W => ∃ B, tBox W B x ∧ a' = { tmps := #[.slice none 0 0, .func (.func gf) #[] lb, .pointer (some ⟨w.heap.size, 0, none⟩), undef, .slice none 0 0, .pointer (some ⟨B, 0, none⟩), .func (.func gf) #[] lb, tidV x, undef, undef, undef, undef, undef], defers := [] })
    (fun x a' => Own.from (fun _ _ _ _ hs hg hr => by obtain ⟨B, h1, h2⟩ := hs; exact ⟨B, h1.kept hg hr, h2⟩) _) ?assign ?body ?done ?stop
  case assign =>
    intro l pre x W K hI hK
    simp only [encT, show tidV x = .agg #[.int .u8 x.c, .int .u64 x.r] from rfl]
    gi_wp2
    obtain ⟨⟨v, hv, hrow, hn⟩, hB⟩ := hI
    exact hK _ _ ((KeepsOthers.alloc W _).from _) (KeepsWalks.alloc W _) ⟨⟨v, hv.alloc _, World.ownsRow.alloc hrow _, hn⟩, hB.alloc hB.size _⟩ ⟨W.heap.size, World.alloc_heap_new W _, rfl⟩
  case stop =>
    rintro D c pre W _ _ h _
    exact h.elim
  case done =>
    rintro D ys W hD hS ⟨⟨v, hv, hrow, hn⟩, hB⟩ hK
    have hc := hv.cell
    gi_wp2
    refine ⟨by simp, .inl ⟨_, _, rfl, run_takeDeferred hK, ?_⟩⟩
    exact ⟨_, results_tmp rfl _ _ _, v, ys, rfl, hS, ownsRow_putObj hrow _ hK rfl, hn, hB.grown (grownBy_putObj' W D _) hB.size (fun k e => by cases e; simp at hD; omega)⟩
  case body =>
    rintro l pre x a' W hl hlo ⟨⟨v, hv, hrow, hn⟩, hB⟩ ⟨B, hbx, rfl⟩ hlt
    have hc0 := hv.cell
    have hf0 := hv.frozen
    have cA : W.cell? ⟨B, 0, none⟩ = some (.int .u8 x.c) := by simp [World.cell?, show W.heap[B]? = _ from hbx]
    have cB : W.cell? ⟨B, 1, none⟩ = some (.int .u64 x.r) := by simp [World.cell?, show W.heap[B]? = _ from hbx]
    have ld : Sem.run Tryz.prog (loadCellsFrom ⟨B, 0, none⟩ 0 2 #[]) W = .ok #[.int .u8 x.c, .int .u64 x.r] W := run_loadCellsFrom_list Tryz.prog W ⟨B, 0, none⟩ (tcL x) 2 rfl (fun i u hi => by
      rcases i with _ | _ | i
      · exact cA.trans hi
      · exact cB.trans hi
      · cases hi)
    obtain ⟨i0, hi, hz0, hz1, hz2⟩ := info_parts tkrow
    obtain ⟨va, vc, rfl, -, -, -⟩ := own_slice hrow
    have hsz : w.heap.size ≤ W.heap.size := hB.size
    have hone : ∀ v ∈ tcL x, v.oneCell' = true := by intro v hv; simp [tcL] at hv; rcases hv with rfl | rfl <;> rfl
    have hcl : ∀ (j : Nat) (u : Value), (tcL x)[j]? = some u → (W.alloc (.cells #[.int .u8 x.c, .int .u64 x.r] 25)).cell? ((Addr.mk W.heap.size 0 none).add j) = some u := fun i u hi => by
        rcases i with _ | _ | i
        · exact (cell_new (w := W) (b := W.heap.size) rfl).trans hi
        · exact (cell_new (w := W) (b := W.heap.size) rfl).trans hi
        · cases hi
    gi_wp2_with (first
      | (gi_at_builtin; refine wpListIn_append_own _ rfl _ _ 94 rfl w.heap.size 25 i0 _ 2 16 Tryz.underlying94 hi hz0 hz1 hz2 rfl (by decide) _ _ _ rfl (World.ownsRow.alloc hrow _) ⟨W.heap.size, 0, none⟩ 1 1 (tcL x) rfl rfl hcl hone (by unfold maxLen; omega) (by omega) (by simp; omega) ?_
         intro v' w' hown' hgrow' hnil'
         obtain ⟨g', cap', rfl⟩ := ownsRow_succ hown'
         obtain ⟨hv1, hv2, hr2, hkk, hbb⟩ := hv.appended (n₀ := w.heap.size) (by decide) hrow hsz (Nat.le_refl _) hown' hgrow'
         have q1 := hv1.cell
         have q2 := hv1.frozen
         go_frame)
      | gi_in)
    refine ⟨hkk.from _, hkk.walks, ⟨_, hv2, ?_, by simp⟩, hB.trans hbb⟩
    rw [List.length_append, cellsL_snoc]
    exact hr2
end Go.Proofs.YtnkghdakjdhhdaaGreat
end
section
namespace Go.Proofs.YtnkghdakjdhhdaaGreat
open Go.RowKit Go.Lib Go.Tk Go.Shelf Go.Maps Go.Sort
section
variable {α : Type} [Inhabited α] {enc : α → List Value} {k : Nat}
theorem ownsRow_sortedK {w : World} {base g cap n : Nat} {e : TypeId} {m : Nat} {os : Array Obj} (hk : ∀ x, (enc x).length = k) (d' : Array α) (hn : d'.size = n) (xs : List Value)
    (h : w.ownsRow base e k (.slice (some ⟨g, 0, none⟩) n cap) n xs) : (sortWorldK enc k w g 0 m d' os).ownsRow base e k (.slice (some ⟨g, 0, none⟩) n cap) n (cellsL enc d'.toList) := by
  subst hn
  rcases h.2 with ⟨h0, _⟩ | ⟨g2, cap2, cur, heq, hbase, hgb, h1, h2, h3, h4⟩
  · cases h0
  · simp only [Value.slice.injEq, Option.some.injEq, Addr.mk.injEq, true_and, and_true] at heq
    obtain ⟨rfl, rfl⟩ := heq
    have hg : g < w.heap.size := (Array.getElem?_eq_some_iff.1 hgb).1
    have hl : (cellsL enc d'.toList).length = d'.size * k := flat_len hk d'
    have hcs : d'.size * k ≤ cur.size := by rw [h3]; exact Nat.mul_le_mul_right k h1
    refine ⟨hl, .inr ⟨g, cap, putCells id 0 (flatK enc k d') cur, rfl, hbase, ?_, h1, h2, by simp [putCells, h3], ?_⟩⟩
    · unfold sortWorldK putRowK
      rw [heap_grow_old _ _ (by simpa using hg)]
      simp [putRow, mapBlock, Sort.ahead, Array.getElem?_modify, hgb, onCells]
    · apply List.ext_getElem?
      intro j
      by_cases hj : j < d'.size * k
      · rw [List.getElem?_take_of_lt hj, Array.getElem?_toList]
        have e1 := flat_get hk d' j hj
        have e2 : (cellsL enc d'.toList)[j]? = some ((cellsL enc d'.toList).getD j undef) := by
          rw [List.getD_eq_getElem?_getD, List.getElem?_eq_getElem (by rw [hl]; exact hj)]; rfl
        rw [e2]
        show _ = some (((d'.toList.map enc).flatten).getD j undef)
        rw [e1]
        simp [putCells, hj, show j < cur.size by omega]
      · rw [List.getElem?_take_eq_none (by omega), List.getElem?_eq_none (by rw [hl]; omega)]
end
set_option maxHeartbeats 400000 in
theorem compareU_any (a b : Int) (w : World) : Calls Tryz.prog 94 #[.int .u64 a, .int .u64 b] w fun e w' => e = .returned (.int .i64 (cmpI a b)) ∧ w = w' := by
  have h63 : ∀ (x : Int) (w : World), Calls Tryz.prog 130 #[.int .u64 x] w fun e w' => e = .returned (.bool false) ∧ w = w' := by
    intro x w
    go_enter Tryz.func130, Tryz.ntmps130
    go_wp2
    go_ret
    exact ⟨rfl, rfl⟩
  have H := hid h63
  clear h63
  rcases Int.lt_trichotomy a b with h | rfl | h
  · have F : Hid (cmpI a b = -1) := by unfold Hid cmpI; rw [if_pos h]
    go_enter Tryz.func94, Tryz.ntmps94
    go_wp2_with (go_at_call 130; refine (H.out _ _).mono ?_; rintro e w' ⟨rfl, rfl⟩)
    go_ret
    exact ⟨ret_i (by rw [F.out]), rfl⟩
  · have F : Hid (cmpI a a = 0) := by unfold Hid cmpI; simp
    go_enter Tryz.func94, Tryz.ntmps94
    go_wp2_with (go_at_call 130; refine (H.out _ _).mono ?_; rintro e w' ⟨rfl, rfl⟩)
    go_ret
    exact ⟨ret_i (by rw [F.out]), rfl⟩
  · have F : Hid (cmpI a b = 1) := by unfold Hid cmpI; rw [if_neg (by omega), if_pos h]
    go_enter Tryz.func94, Tryz.ntmps94
    go_wp2_with (go_at_call 130; refine (H.out _ _).mono ?_; rintro e w' ⟨rfl, rfl⟩)
    go_ret
    exact ⟨ret_i (by rw [F.out]), rfl⟩
def encS (c : Int) (r : Int) : List Value := [.int .u8 c, .int .u64 r]
set_option maxHeartbeats 400000 in
theorem tickets1_any (c x y : Int) (w : World) :
    Calls Tryz.prog 93 #[.agg (encS c x).toArray, .agg (encS c y).toArray] w fun e w' => e = .returned (.int .i64 (cmpI x y)) ∧ (w.alloc (.cells (encS c x).toArray 25)).alloc (.cells (encS c y).toArray 25) = w' := by
  simp only [encS]
  go_enter Tryz.func93, Tryz.ntmps93
  go_wp2_with (go_at_call 94; refine (compareU_any _ _ _).mono ?_; rintro e w' ⟨rfl, rfl⟩)
  go_ret
  exact ⟨rfl, rfl⟩
theorem cmpT_lays (c : Int) (blk off size : Nat) (w : World) : CmpLays Tryz.prog 93 #[] (encS c) 2 cmpI blk off size w := by
  intro m os dk _ x y
  refine (tickets1_any c x y _).mono ?_
  rintro e w' ⟨rfl, rfl⟩
  refine ⟨rfl, 0, #[.cells (encS c x).toArray 25, .cells (encS c y).toArray 25], ?_⟩
  rfl
theorem ltI (x y : Int) : ltOf cmpI x y = decide (x < y) := by
  unfold ltOf cmpI
  by_cases h1 : x < y
  · simp [h1]
  · by_cases h2 : y < x <;> simp [h1, h2]
theorem swoI : SWO (ltOf cmpI) where
  irrefl x := by rw [ltI]; simp
  trans x y z h1 h2 := by rw [ltI] at *; simp at *; omega
  ntrans x y z h1 h2 := by rw [ltI] at *; simp at *; omega
theorem totI (x y : Int) (h1 : ltOf cmpI x y = false) (h2 : ltOf cmpI y x = false) : x = y := by
  rw [ltI] at h1 h2; simp at h1 h2; omega
end Go.Proofs.YtnkghdakjdhhdaaGreat
end
section
namespace Go.Proofs.YtnkghdakjdhhdaaGreat
open Go.RowKit Go.Lib Go.Tk Go.Shelf
def sortT_ren : Go.Shelf.Ren := ⟨fun | 6 => 128 | 15 => 166 | 28 => 186 | 29 => 187 | 47 => 201 | 48 => 202 | 14 => 165 | 20 => 178 | 21 => 179 | 22 => 180 | 23 => 181 | 24 => 182 | 25 => 183 | 26 => 184 | 27 => 185 | 46 => 200 | 49 => 203 | 50 => 204 | 57 => 210 | n => n, fun | 22 => 94 | 24 => 25 | 25 => 160 | 3 => 3 | 39 => 241 | 0 => 0 | 53 => 29 | 55 => 23 | 4 => 4 | 46 => 255 | 45 => 254 | 50 => 259 | 5 => 5 | 9 => 9 | 66 => 271 | 70 => 275 | 76 => 279 | 77 => 280 | n => n, fun n => n⟩
theorem sortT : SlLaysF0.n6 Tryz.prog sortT_ren where
  mixed := by kernel_rfl
  f6 := ⟨ "slices.SortFunc[[]tarmac/api.Ticket,tarmac/api.Ticket]", by decide, Tryz.func128.trans (congrArg some (by kernel_rfl))⟩
  f14 := ⟨ "slices.pdqsortCmpFunc[tarmac/api.Ticket]", by decide, Tryz.func165.trans (congrArg some (by kernel_rfl))⟩
  f15 := Tryz.func166.trans (congrArg some (by kernel_rfl))
  f20 := ⟨ "slices.insertionSortCmpFunc[tarmac/api.Ticket]", by decide, Tryz.func178.trans (congrArg some (by kernel_rfl))⟩
  f21 := ⟨ "slices.heapSortCmpFunc[tarmac/api.Ticket]", by decide, Tryz.func179.trans (congrArg some (by kernel_rfl))⟩
  f22 := ⟨ "slices.breakPatternsCmpFunc[tarmac/api.Ticket]", by decide, Tryz.func180.trans (congrArg some (by kernel_rfl))⟩
  f23 := ⟨ "slices.choosePivotCmpFunc[tarmac/api.Ticket]", by decide, Tryz.func181.trans (congrArg some (by kernel_rfl))⟩
  f24 := ⟨ "slices.reverseRangeCmpFunc[tarmac/api.Ticket]", by decide, Tryz.func182.trans (congrArg some (by kernel_rfl))⟩
  f25 := ⟨ "slices.partialInsertionSortCmpFunc[tarmac/api.Ticket]", by decide, Tryz.func183.trans (congrArg some (by kernel_rfl))⟩
  f26 := ⟨ "slices.partitionEqualCmpFunc[tarmac/api.Ticket]", by decide, Tryz.func184.trans (congrArg some (by kernel_rfl))⟩
  f27 := ⟨ "slices.partitionCmpFunc[tarmac/api.Ticket]", by decide, Tryz.func185.trans (congrArg some (by kernel_rfl))⟩
  f28 := Tryz.func186.trans (congrArg some (by kernel_rfl))
  f29 := Tryz.func187.trans (congrArg some (by kernel_rfl))
  f46 := ⟨ "slices.siftDownCmpFunc[tarmac/api.Ticket]", by decide, Tryz.func200.trans (congrArg some (by kernel_rfl))⟩
  f47 := Tryz.func201.trans (congrArg some (by kernel_rfl))
  f48 := Tryz.func202.trans (congrArg some (by kernel_rfl))
  f49 := ⟨ "slices.medianAdjacentCmpFunc[tarmac/api.Ticket]", by decide, Tryz.func203.trans (congrArg some (by kernel_rfl))⟩
  f50 := ⟨ "slices.medianCmpFunc[tarmac/api.Ticket]", by decide, Tryz.func204.trans (congrArg some (by kernel_rfl))⟩
  f57 := ⟨ "slices.order2CmpFunc[tarmac/api.Ticket]", by decide, Tryz.func210.trans (congrArg some (by kernel_rfl))⟩
  t0 := Tryz.underlying0
  a0 := Tryz.isAgg0
  z0 := Tryz.sizeOf0
  v0 := Tryz.zeroValue0
  t3 := Tryz.underlying3
  a3 := Tryz.isAgg3
  z3 := Tryz.sizeOf3
  v3 := Tryz.zeroValue3
  t4 := Tryz.underlying4
  a4 := Tryz.isAgg4
  z4 := Tryz.sizeOf4
  v4 := Tryz.zeroValue4
  t5 := Tryz.underlying5
  a5 := Tryz.isAgg5
  z5 := Tryz.sizeOf5
  v5 := Tryz.zeroValue5
  t9 := Tryz.underlying9
  a9 := Tryz.isAgg9
  z9 := Tryz.sizeOf9
  v9 := Tryz.zeroValue9
  t22 := Tryz.underlying94
  a22 := Tryz.isAgg94
  z22 := Tryz.sizeOf94
  v22 := Tryz.zeroValue94
  t25 := Tryz.underlying160
  a25 := Tryz.isAgg160
  z25 := Tryz.sizeOf160
  v25 := Tryz.zeroValue160
  t39 := Tryz.underlying241
  a39 := Tryz.isAgg241
  z39 := Tryz.sizeOf241
  v39 := Tryz.zeroValue241
  t45 := Tryz.underlying254
  a45 := Tryz.isAgg254
  z45 := Tryz.sizeOf254
  v45 := Tryz.zeroValue254
  t46 := Tryz.underlying255
  a46 := Tryz.isAgg255
  z46 := Tryz.sizeOf255
  v46 := Tryz.zeroValue255
  t50 := Tryz.underlying259
  a50 := Tryz.isAgg259
  z50 := Tryz.sizeOf259
  v50 := Tryz.zeroValue259
  t53 := Tryz.underlying29
  a53 := Tryz.isAgg29
  z53 := Tryz.sizeOf29
  v53 := Tryz.zeroValue29
  t55 := Tryz.underlying23
  a55 := Tryz.isAgg23
  z55 := Tryz.sizeOf23
  v55 := Tryz.zeroValue23
  t66 := Tryz.underlying271
  a66 := Tryz.isAgg271
  z66 := Tryz.sizeOf271
  v66 := Tryz.zeroValue271
  t70 := Tryz.underlying275
  a70 := Tryz.isAgg275
  z70 := Tryz.sizeOf275
  v70 := Tryz.zeroValue275
  t76 := Tryz.underlying279
  a76 := Tryz.isAgg279
  z76 := Tryz.sizeOf279
  v76 := Tryz.zeroValue279
  t77 := Tryz.underlying280
  a77 := Tryz.isAgg280
  z77 := Tryz.sizeOf280
  v77 := Tryz.zeroValue280
def sortK_ren : Go.Shelf.Ren := ⟨fun | 6 => 139 | 15 => 166 | 28 => 186 | 29 => 187 | 47 => 201 | 48 => 202 | 14 => 169 | 20 => 188 | 21 => 189 | 22 => 190 | 23 => 191 | 24 => 192 | 25 => 193 | 26 => 194 | 27 => 195 | 46 => 205 | 49 => 206 | 50 => 207 | 57 => 211 | n => n, fun | 22 => 112 | 24 => 27 | 25 => 182 | 3 => 3 | 39 => 241 | 0 => 0 | 53 => 29 | 55 => 23 | 4 => 4 | 46 => 255 | 45 => 254 | 50 => 259 | 5 => 5 | 9 => 9 | 66 => 271 | 70 => 275 | 76 => 279 | 77 => 280 | n => n, fun n => n⟩
theorem sortK : SlLaysF0.n6 Tryz.prog sortK_ren where
  mixed := by kernel_rfl
  f6 := ⟨ "slices.SortFunc[[]tarmac/api.Key,tarmac/api.Key]", by decide, Tryz.func139.trans (congrArg some (by kernel_rfl))⟩
  f14 := ⟨ "slices.pdqsortCmpFunc[tarmac/api.Key]", by decide, Tryz.func169.trans (congrArg some (by kernel_rfl))⟩
  f15 := Tryz.func166.trans (congrArg some (by kernel_rfl))
  f20 := ⟨ "slices.insertionSortCmpFunc[tarmac/api.Key]", by decide, Tryz.func188.trans (congrArg some (by kernel_rfl))⟩
  f21 := ⟨ "slices.heapSortCmpFunc[tarmac/api.Key]", by decide, Tryz.func189.trans (congrArg some (by kernel_rfl))⟩
  f22 := ⟨ "slices.breakPatternsCmpFunc[tarmac/api.Key]", by decide, Tryz.func190.trans (congrArg some (by kernel_rfl))⟩
  f23 := ⟨ "slices.choosePivotCmpFunc[tarmac/api.Key]", by decide, Tryz.func191.trans (congrArg some (by kernel_rfl))⟩
  f24 := ⟨ "slices.reverseRangeCmpFunc[tarmac/api.Key]", by decide, Tryz.func192.trans (congrArg some (by kernel_rfl))⟩
  f25 := ⟨ "slices.partialInsertionSortCmpFunc[tarmac/api.Key]", by decide, Tryz.func193.trans (congrArg some (by kernel_rfl))⟩
  f26 := ⟨ "slices.partitionEqualCmpFunc[tarmac/api.Key]", by decide, Tryz.func194.trans (congrArg some (by kernel_rfl))⟩
  f27 := ⟨ "slices.partitionCmpFunc[tarmac/api.Key]", by decide, Tryz.func195.trans (congrArg some (by kernel_rfl))⟩
  f28 := Tryz.func186.trans (congrArg some (by kernel_rfl))
  f29 := Tryz.func187.trans (congrArg some (by kernel_rfl))
  f46 := ⟨ "slices.siftDownCmpFunc[tarmac/api.Key]", by decide, Tryz.func205.trans (congrArg some (by kernel_rfl))⟩
  f47 := Tryz.func201.trans (congrArg some (by kernel_rfl))
  f48 := Tryz.func202.trans (congrArg some (by kernel_rfl))
  f49 := ⟨ "slices.medianAdjacentCmpFunc[tarmac/api.Key]", by decide, Tryz.func206.trans (congrArg some (by kernel_rfl))⟩
  f50 := ⟨ "slices.medianCmpFunc[tarmac/api.Key]", by decide, Tryz.func207.trans (congrArg some (by kernel_rfl))⟩
  f57 := ⟨ "slices.order2CmpFunc[tarmac/api.Key]", by decide, Tryz.func211.trans (congrArg some (by kernel_rfl))⟩
  t0 := Tryz.underlying0
  a0 := Tryz.isAgg0
  z0 := Tryz.sizeOf0
  v0 := Tryz.zeroValue0
  t3 := Tryz.underlying3
  a3 := Tryz.isAgg3
  z3 := Tryz.sizeOf3
  v3 := Tryz.zeroValue3
  t4 := Tryz.underlying4
  a4 := Tryz.isAgg4
  z4 := Tryz.sizeOf4
  v4 := Tryz.zeroValue4
  t5 := Tryz.underlying5
  a5 := Tryz.isAgg5
  z5 := Tryz.sizeOf5
  v5 := Tryz.zeroValue5
  t9 := Tryz.underlying9
  a9 := Tryz.isAgg9
  z9 := Tryz.sizeOf9
  v9 := Tryz.zeroValue9
  t22 := Tryz.underlying112
  a22 := Tryz.isAgg112
  z22 := Tryz.sizeOf112
  v22 := Tryz.zeroValue112
  t25 := Tryz.underlying182
  a25 := Tryz.isAgg182
  z25 := Tryz.sizeOf182
  v25 := Tryz.zeroValue182
  t39 := Tryz.underlying241
  a39 := Tryz.isAgg241
  z39 := Tryz.sizeOf241
  v39 := Tryz.zeroValue241
  t45 := Tryz.underlying254
  a45 := Tryz.isAgg254
  z45 := Tryz.sizeOf254
  v45 := Tryz.zeroValue254
  t46 := Tryz.underlying255
  a46 := Tryz.isAgg255
  z46 := Tryz.sizeOf255
  v46 := Tryz.zeroValue255
  t50 := Tryz.underlying259
  a50 := Tryz.isAgg259
  z50 := Tryz.sizeOf259
  v50 := Tryz.zeroValue259
  t53 := Tryz.underlying29
  a53 := Tryz.isAgg29
  z53 := Tryz.sizeOf29
  v53 := Tryz.zeroValue29
  t55 := Tryz.underlying23
  a55 := Tryz.isAgg23
  z55 := Tryz.sizeOf23
  v55 := Tryz.zeroValue23
  t66 := Tryz.underlying271
  a66 := Tryz.isAgg271
  z66 := Tryz.sizeOf271
  v66 := Tryz.zeroValue271
  t70 := Tryz.underlying275
  a70 := Tryz.isAgg275
  z70 := Tryz.sizeOf275
  v70 := Tryz.zeroValue275
  t76 := Tryz.underlying279
  a76 := Tryz.isAgg279
  z76 := Tryz.sizeOf279
  v76 := Tryz.zeroValue279
  t77 := Tryz.underlying280
  a77 := Tryz.isAgg280
  z77 := Tryz.sizeOf280
  v77 := Tryz.zeroValue280
end Go.Proofs.YtnkghdakjdhhdaaGreat
end
section
namespace Go.Proofs.YtnkghdakjdhhdaaGreat
open Go.RowKit Go.Lib Go.Tk Go.Shelf Go.Maps Go.Sort
section
variable {α : Type} [Inhabited α]
def sortBy (cf : α → α → Int) (l : List α) : List α := l.mergeSort fun x y => !(ltOf cf) y x
omit [Inhabited α] in
theorem sortBy_perm (cf : α → α → Int) (l : List α) : (sortBy cf l).Perm l := List.mergeSort_perm _ _
omit [Inhabited α] in
theorem sortBy_pair {cf : α → α → Int} (hS : SWO (ltOf cf)) (l : List α) : (sortBy cf l).Pairwise fun x y => (!(ltOf cf) y x) = true := by
  refine List.pairwise_mergeSort ?_ ?_ _
  · intro a b c h1 h2
    simp only [Bool.not_eq_true'] at h1 h2 ⊢
    exact hS.ntrans c b a h2 h1
  · intro a b
    cases h : ltOf cf b a with
    | false => simp
    | true => simp [hS.asymmA h]
omit [Inhabited α] in
theorem sortBy_eq {cf : α → α → Int} (hS : SWO (ltOf cf)) (hT : ∀ x y, (ltOf cf) x y = false → (ltOf cf) y x = false → x = y) {a b : List α} (h : a.Perm b) : sortBy cf a = sortBy cf b := by
  refine List.Perm.eq_of_pairwise (le := fun x y => (!(ltOf cf) y x) = true) ?_ (sortBy_pair hS a) (sortBy_pair hS b) (((sortBy_perm cf a).trans h).trans (sortBy_perm cf b).symm)
  intro a b _ _ h1 h2
  simp only [Bool.not_eq_true'] at h1 h2
  exact hT a b h2 h1
omit [Inhabited α] in
theorem sortBy_self {cf : α → α → Int} (hS : SWO (ltOf cf)) (hT : ∀ x y, (ltOf cf) x y = false → (ltOf cf) y x = false → x = y) {a : List α} (h : a.Pairwise fun x y => (!(ltOf cf) y x) = true) : sortBy cf a = a := by
  refine List.Perm.eq_of_pairwise (le := fun x y => (!(ltOf cf) y x) = true) ?_ (sortBy_pair hS a) h (sortBy_perm cf a)
  intro a b _ _ h1 h2
  simp only [Bool.not_eq_true'] at h1 h2
  exact hT a b h2 h1
end
theorem collectT_in (F : Fence) (n : Nat) (hF : F.fn 127) (hA : F.fn 164) (hro : F.round = none) (hn : 4 ≤ n) (gf : Nat) (lb : Array Value) (hFg : F.fn gf) (eg : ∀ args w, (callFunc gf args).run Tryz.prog w = .ok (.enter gf args) w)
    (S Sp : List Tid → Prop) (N : Nat) (hN : N ≤ 1000000000) (w w0 : World) (hb0 : Below w0.heap.size w0 w) (hseq : SeqStopsK F (n - 1 - 1) Tryz.prog gf lb encT KeepsWalks S Sp N w0) :
    CallsIn F n Tryz.prog 127 #[.func (.func gf) #[] lb] w fun e w' => ∃ v ss, e = .returned v ∧ S ss ∧ w'.ownsRow w.heap.size 25 2 v ss.length (cellsL tcL ss) ∧ (v = .slice none 0 0 ↔ ss = []) ∧ Below w.heap.size w w' := by
  have h1 : 1 ≤ n := by omega
  have cA := appendT_in F (n - 1) hA hro (by omega) gf lb hFg eg S Sp N hN w w0 hb0 hseq
  refine callsIn_of_wp Tryz.func127 rfl hF ?_ hro
  simp only [Tryz.ntmps127, List.size_toArray, List.length_cons, List.length_nil, Nat.reduceAdd, Nat.reduceSub, Array.replicate_succ, Array.replicate_zero, List.push_toArray, List.append_toArray, List.nil_append, List.cons_append]
  gi_wp2_with (gi_at_call 164; refine cA.mono ?_; rintro e w' ⟨v, ss, rfl, hS, hrow, hnil, hb⟩)
  go_ret
  exact ⟨v, ss, rfl, hS, hrow, hnil, hb⟩
def SortedFT : Nat := 91
def Tickets1 : Nat := 93
theorem cells_tid (c : Int) (rs : List Int) : cellsL tcL (rs.map (Tid.mk c)) = cellsL (encS c) rs := by
  unfold cellsL
  rw [List.map_map]
  rfl
theorem tid_back {c : Int} {rs : List Int} {ss : List Tid} (h : ss.Perm (rs.map (Tid.mk c))) : ss = (ss.map (·.r)).map (Tid.mk c) ∧ (ss.map (·.r)).Perm rs := by
  constructor
  · have : ∀ x ∈ ss, x.c = c := fun x hx => by
      obtain ⟨r, -, rfl⟩ := List.mem_map.1 (h.mem_iff.1 hx)
      rfl
    rw [List.map_map]
    conv => lhs; rw [← List.map_id ss]
    refine List.map_congr_left fun x hx => ?_
    have := this x hx
    obtain ⟨a, b⟩ := x
    cases this
    rfl
  · have := h.map (·.r)
    rw [List.map_map, show ((fun x : Tid => x.r) ∘ Tid.mk c) = id from rfl, List.map_id] at this
    exact this
set_option maxHeartbeats 4000000 in
theorem sortedT_any (Bn b : Nat) (L : List (Tid × Value)) (c : Int) (rs : List Int) (hL : L.map (·.1) = rs.map (Tid.mk c)) (w : World) (hm : MapAt tidK w b L) (hBn : w.cell? ⟨Bn, 0, none⟩ = some (.map (some b))) (hlen : L.length ≤ 1000000000) :
    Calls Tryz.prog SortedFT #[.func (.func KeysT1) #[] #[.pointer (some ⟨Bn, 0, none⟩)], .func (.func Tickets1) #[] #[]] w fun e w' => ∃ v, e = .returned v ∧ w'.ownsRow w.heap.size 25 2 v rs.length (cellsL tcL ((sortBy cmpI rs).map (Tid.mk c))) ∧ Below w.heap.size w w' := by
  refine (callsIn_wide (n := 8)).1 ?_
  have hbl : b < w.heap.size := hm.lt
  have hBl : Bn < w.heap.size := World.block_lt_of_cell? w _ hBn
  have hseq : SeqStopsK Fence.wide 5 Tryz.prog KeysT1 #[.pointer (some ⟨Bn, 0, none⟩)] encT KeepsWalks (fun ys => ys.Perm (L.map (·.1))) (fun pre => ∃ rest, (pre ++ rest).Perm (L.map (·.1))) L.length w := fun l J Jx W hW hJ hJx hY h0 =>
    keysT1_in Fence.wide 5 trivial rfl (by omega) l Bn b L J Jx W hJ (hm.same (hW.block b hbl)) ((hW.cell (p := ⟨Bn, 0, none⟩) hBl).trans hBn) hY h0
  have cC := collectT_in Fence.wide 7 trivial trivial rfl (by omega) KeysT1 #[.pointer (some ⟨Bn, 0, none⟩)] trivial (enters_of Tryz.func129 (by kernel_rfl) rfl) _ _ L.length hlen w w (Below.refl _ _) hseq
  have hfC : Fence.wide.fn 127 := trivial
  have hfS : Fence.wide.fn 128 := trivial
  have hLL : L.length = rs.length := by have := congrArg List.length hL; simpa using this
  rw [hL] at cC
  clear hseq hm hBn hL
  unfold SortedFT
  refine callsIn_of_wp Tryz.func91 rfl trivial ?_ rfl
  simp only [Tryz.ntmps91, List.size_toArray, List.length_cons, List.length_nil, Nat.reduceAdd, Nat.reduceSub, Array.replicate_succ, Array.replicate_zero, List.push_toArray, List.append_toArray, List.nil_append, List.cons_append]
  gi_wp2_with (gi_at_call 127; refine cC.mono ?_; rintro e W ⟨v, ss, rfl, hS, hrow, hnil, hb⟩)
  obtain ⟨hss, hpm⟩ := tid_back hS
  obtain ⟨d, hd⟩ : ∃ d, d = ss.map (·.r) := ⟨_, rfl⟩
  rw [← hd] at hss hpm
  have hsort : sortBy cmpI d = sortBy cmpI rs := sortBy_eq swoI totI hpm
  have hdl : d.length = rs.length := hpm.length_eq
  have hsl : ss.length = rs.length := by rw [hss, List.length_map, hdl]
  rw [hsl, hss, cells_tid] at hrow
  have HD := hid hd
  clear hss hd
  rcases hrow.2 with ⟨rfl, hz⟩ | ⟨gb, cap, cur, rfl, hbase, hgb, r1, r2, r3, r4⟩
  · have hrs : rs = [] := List.eq_nil_of_length_eq_zero hz
    subst hrs
    have cN : CallsIn Fence.wide 7 Tryz.prog 128 #[.slice none 0 0, .func (.func Tickets1) #[] #[]] W fun e w' => e = .returned (.tuple #[]) ∧ w' = W := callsIn_wide.2 (AnyF.slices_SortFunc_none sortT none 0 _ W)
    gi_wp2_with (gi_at_call 128; refine cN.mono ?_; rintro e w' ⟨rfl, rfl⟩)
    go_ret
    refine ⟨_, rfl, ?_, hb⟩
    have hdn : d = [] := List.eq_nil_of_length_eq_zero hdl
    rw [cells_tid, ← hsort, HD.out]
    rw [HD.out] at hdn
    have e0 : sortBy cmpI (ss.map (·.r)) = [] := by
      have := (sortBy_perm cmpI (ss.map (·.r))).length_eq
      rw [hdn] at this ⊢
      exact List.eq_nil_of_length_eq_zero this
    rw [e0]
    rw [HD.out, hdn] at hrow
    exact hrow
  · have hda : d.toArray.size = rs.length := by simpa using hdl
    have hH : HoldsK (encS c) 2 W gb 0 d.toArray := holdsK_of_owns (enc := encS c) (k := 2) (fun _ => rfl) d.toArray hda hrow
    have hgl : gb < W.heap.size := (Array.getElem?_eq_some_iff.1 hgb).1
    have cS : CallsIn Fence.wide 7 Tryz.prog 128 #[.slice (some ⟨gb, 0, none⟩) d.toArray.size cap, .func (.func Tickets1) #[] #[]] W fun e w' => e = .returned (.tuple #[]) ∧ ∃ n os, w' = sortWorldK (encS c) 2 W gb 0 n (sortBy cmpI d).toArray os :=
      callsIn_wide.2 (AnyQ.slices_SortFunc_total sortT 2 Tryz.isAgg25 Tryz.sizeOf25 (encS c) (fun _ => rfl) (fun x v hv => by simp [encS] at hv; rcases hv with rfl | rfl <;> rfl) cmpI swoI Tickets1 #[] gb 0 cap d.toArray W (enters_of Tryz.func93 (by kernel_rfl) rfl) (cmpT_lays c gb 0 _ W) hH hgl (by rw [hda]; omega) totI)
    rw [hda] at cS
    gi_wp2_with (gi_at_call 128; refine cS.mono ?_; rintro e w' ⟨rfl, nn, os, rfl⟩)
    go_ret
    refine ⟨_, rfl, ?_, ?_⟩
    · have := ownsRow_sortedK (m := nn) (os := os) (enc := encS c) (fun _ => rfl) (sortBy cmpI d).toArray (by have := (sortBy_perm cmpI d).length_eq; simpa [hdl] using this) _ hrow
      rw [cells_tid, ← hsort]
      exact this
    · exact hb.grown (swk_grown ⟨nn, os, rfl⟩) hb.size (fun j hj => by cases hj; exact hbase)
end Go.Proofs.YtnkghdakjdhhdaaGreat
end
section
namespace Go.Proofs.YtnkghdakjdhhdaaGreat
open Go.RowKit Go.Lib Go.Tk Go.Shelf Go.Maps
attribute [local go_sem] Oper.semAt_some
def KeysK1 : Nat := 140
abbrev encKy (x : Kid) : Array Value := #[kidV x]
set_option maxHeartbeats 4000000 in
theorem keysK1_in (F : Fence) (n : Nat) (hF : F.fn KeysK1) (hro : F.round = none) (hn : 1 ≤ n) (l Bn b : Nat) (L : List (Kid × Value)) (J Jx : List Kid → World → Prop) (W : World) (hA : AbidesFrom W.heap.size J)
    (hm : MapAt kidK W b L) (hBn : W.cell? ⟨Bn, 0, none⟩ = some (.map (some b)))
    (hY : ∀ pre x W1, J pre W1 → pre.length < L.length → YieldAt F (n - 1) Tryz.prog l (encKy x) W1 fun e W' =>
      (e = .returned (.bool true) ∧ J (pre ++ [x]) W' ∧ KeepsWalks W1 W') ∨ (e = .returned (.bool false) ∧ Jx (pre ++ [x]) W')) (h0 : J [] W) :
    CallsIn F n Tryz.prog KeysK1 #[.func (.yield l) #[] #[], .pointer (some ⟨Bn, 0, none⟩)] W fun e W' => (∃ v, e = .returned v) ∧
      ((∃ ys, ys.Perm (L.map (·.1)) ∧ J ys W') ∨ (∃ pre, (∃ rest, (pre ++ rest).Perm (L.map (·.1))) ∧ Jx pre W')) := by
  have HY := hid hY
  have HA := hid hA
  have hsz : Aside (∀ x : Nat, x = W.heap.size → x = W.heap.size) := fun _ e => e
  clear hY hA
  refine callsIn_of_wp Tryz.func140 rfl hF ?_ hro
  simp only [Tryz.ntmps140, List.size_toArray, List.length_cons, List.length_nil, Nat.reduceAdd, Nat.reduceSub, Array.replicate_succ, Array.replicate_zero, List.push_toArray, List.append_toArray, List.nil_append, List.cons_append]
  gi_wp2_with (first
    | (gi_at_range; refine wpListIn_range_mapA rfl _ 119 rfl Tryz.underlying119 rfl hm ?_; intro w1 hrg hb1)
    | gi_in)
  go_frame
  have hJ1 := HA.out [] W w1 none h0 (grown_of_below hb1) (fun r e => by cases e)
  have Hrg := hid hrg
  have HB1 := hid hb1.size
  clear hrg hb1 hm hBn h0
  gi_loopg [] L.length (fun k wr => ∃ (done : List Kid) (left : List (Kid × Value)), k = left.length ∧ Hid (Ranging kidK wr W.heap.size b L left) ∧ Hid ((done ++ left.map (·.1)).Perm (L.map (·.1))) ∧ J done wr ∧ Hid (W.heap.size ≤ wr.heap.size))
  case atStart => exact ⟨[], L, rfl, Hrg, (by rw [List.nil_append]; exact List.Perm.refl _), hJ1, HB1⟩
  case round =>
    obtain ⟨done, left, rfl, hr, hp, hj, hs⟩ := hrel
    gi_wp2_with (first
      | (gi_at_next; refine wpListIn_next_mapA rfl _ rfl rfl hr.out ?_ ?_)
      | gi_in)
    · intro hnil
      subst hnil
      have hp' : done.Perm (L.map (·.1)) := by have := hp.out; simpa using this
      gi_wp2
      go_end0
      exact ⟨⟨_, rfl⟩, .inl ⟨done, hp', hj⟩⟩
    · intro pk pv left' w2 hpl hmem hr2 hg hen
      have hr2' := hid hr2
      have hj2 := HA.out done wr w2 (some W.heap.size) hj hg (fun r e => by cases e; exact ⟨Nat.le_refl _, by
        obtain ⟨es, clock, since, seen, -, h1, -⟩ := hr.out
        exact ⟨_, h1, rfl⟩⟩)
      have hlen := hpl.length_eq
      simp only [List.length_cons] at hlen
      have hp2 : (done ++ [pk] ++ left'.map (·.1)).Perm (L.map (·.1)) := by
        refine List.Perm.trans ?_ hp.out
        rw [List.append_assoc]
        have hq : (pk :: left'.map (fun p : Kid × Value => p.1)).Perm (left.map (fun p : Kid × Value => p.1)) := (List.Perm.map (fun p : Kid × Value => p.1) hpl).symm
        exact List.Perm.append_left done hq
      have hs2 : W.heap.size ≤ w2.heap.size := Nat.le_trans hs.out hg.size
      have hdl : done.length < L.length := by
        have := hp2.length_eq
        simp only [List.length_append, List.length_cons, List.length_nil, List.length_map] at this
        omega
      have HP2 := hid hp2
      have HS2 := hid hs2
      have HLE := hid hlen
      obtain ⟨w3, hw3⟩ : ∃ w3, w2.alloc (.cells #[.int .u8 pk.t.c, .int .u64 pk.t.r, .int .u8 pk.i] 27) = w3 := ⟨_, rfl⟩
      have hb3 : Below w2.heap.size w2 w3 := by rw [← hw3]; exact (Below.refl w2.heap.size w2).alloc (Nat.le_refl _) _
      have hj3 := HA.out done w2 w3 none hj2 (grown_of_below hb3) (fun r e => by cases e)
      have hr3 := hid (hr2.of_walks (KeepsWalks.alloc w2 (.cells #[.int .u8 pk.t.c, .int .u64 pk.t.r, .int .u8 pk.i] 27)))
      rw [hw3] at hr3
      have hB3 : w3.heap[w2.heap.size]? = some (.cells #[.int .u8 pk.t.c, .int .u64 pk.t.r, .int .u8 pk.i] 27 (0, 0)) := by rw [← hw3]; exact World.alloc_heap_new w2 _
      have hcA : w3.cell? ⟨w2.heap.size, 0, none⟩ = some (.int .u8 pk.t.c) := by simp [World.cell?, hB3]
      have hcB : w3.cell? ⟨w2.heap.size, 1, none⟩ = some (.int .u64 pk.t.r) := by simp [World.cell?, hB3]
      have hcC : w3.cell? ⟨w2.heap.size, 2, none⟩ = some (.int .u8 pk.i) := by simp [World.cell?, hB3]
      have hs3 := hid (Nat.le_trans hs2 hb3.size)
      have HP2 := hid hp2
      have HLE := hid hlen
      clear hp hr hj hs hpl hmem hg hp2 hs2 hlen hr2 hr2' hj2 hb3 hB3
      obtain ⟨fn, tmps, assign, body, hy, hR⟩ := HY.out done pk w3 hj3 hdl
      simp only [encKy, show kidV pk = .agg #[.int .u8 pk.t.c, .int .u64 pk.t.r, .int .u8 pk.i] from rfl] at hy
      simp only [show kidK.kv pk = .agg #[.int .u8 pk.t.c, .int .u64 pk.t.r, .int .u8 pk.i] from rfl] at hen ⊢
      gi_wp2
      refine hR.mono ?_
      rintro e W3 (⟨rfl, hJ3, hk3⟩ | ⟨rfl, hJx3⟩)
      · have hr4 := hid (hr3.out.of_walks hk3)
        have hs4 := hid (Nat.le_trans hs3.out hk3.1)
        have hle : left'.length < left.length := by have := HLE.out; omega
        gi_wp2
        gi_roundg left'.length
        case rel => exact ⟨done ++ [pk], left', rfl, hr4, HP2, hJ3, hs4⟩
        case measure => exact hle
      · gi_wp2
        refine bodyPost_ret (results_none rfl _ _ _) rfl ?_
        exact ⟨⟨_, rfl⟩, .inr ⟨done ++ [pk], ⟨_, HP2.out⟩, hJx3⟩⟩
end Go.Proofs.YtnkghdakjdhhdaaGreat
end
