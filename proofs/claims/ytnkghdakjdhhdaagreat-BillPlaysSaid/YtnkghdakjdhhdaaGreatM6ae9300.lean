/- Kk2, Kk3, Kk4. -/
import Derived.Test.YtnkghdakjdhhdaaGreatM33331ff
import Derived.Test.YtnkghdakjdhhdaaGreatM64f4c37
import Derived.RangeFuncFrom
import Derived.RangeFuncWrites
import Derived.RangeFuncNested
import Derived.Test.YtnkghdakjdhhdaaGreatM6661197
import Derived.Deep.Cut
set_option maxRecDepth 100000
set_option linter.unusedVariables false
set_option linter.unusedSimpArgs false
set_option linter.unusedSectionVars false
section
namespace Go.Proofs.YtnkghdakjdhhdaaGreat
open Go.RowKit Go.Lib Go.Tk Go.Shelf Go.Maps
attribute [local go_sem] Oper.semAt_some
attribute [-go_sem] loadCellsFrom
def kcL (x : Kid) : List Value := [.int .u8 x.t.c, .int .u64 x.t.r, .int .u8 x.i]
theorem kkrow : (Tryz.prog.info? 27).map (fun i => (i.zero, i.size, i.bytes)) = some (some (.agg #[.int .u8 0, .int .u64 0, .int .u8 0]), 3, 24) := by kernel_rfl
def kBox (W : World) (B : Nat) (x : Kid) : Prop := W.heap[B]? = some (.cells #[.int .u8 x.t.c, .int .u64 x.t.r, .int .u8 x.i] 27 (0, 0))
theorem kBox.kept {W W' : World} {row : Option Nat} {B : Nat} {x : Kid} (h : kBox W B x) (hg : W.grownBy W' row) (hr : ∀ r, row = some r → ∃ o : Obj, W.heap[r]? = some o ∧ o.isCells = false) : kBox W' B x :=
  (hg.block B (Array.getElem?_eq_some_iff.1 h).1 (fun e => by
    obtain ⟨o, ho, hc⟩ := hr B e.symm
    rw [show W.heap[B]? = _ from h] at ho
    cases ho
    cases hc)).trans h
set_option maxHeartbeats 8000000 in
theorem appendK_in (F : Fence) (n : Nat) (hF : F.fn 168) (hro : F.round = none) (hn : 3 ≤ n) (gf : Nat) (lb : Array Value) (hFg : F.fn gf) (eg : ∀ args w, (callFunc gf args).run Tryz.prog w = .ok (.enter gf args) w)
    (S Sp : List Kid → Prop) (N : Nat) (hN : N ≤ 1000000000) (w w0 : World) (hb0 : Below w0.heap.size w0 w) (hseq : SeqStopsK F (n - 1) Tryz.prog gf lb encKy KeepsWalks S Sp N w0) :
    CallsIn F n Tryz.prog 168 #[.slice none 0 0, .func (.func gf) #[] lb] w fun e w' => ∃ v ss, e = .returned v ∧ S ss ∧ w'.ownsRow w.heap.size 27 3 v ss.length (cellsL kcL ss) ∧ (v = .slice none 0 0 ↔ ss = []) ∧ Below w.heap.size w w' := by
  have h1 : 1 ≤ n := by omega
  refine callsIn_of_wp_marks Tryz.func168 rfl hF ?_ hro
  simp only [Tryz.ntmps168, List.size_toArray, List.length_cons, List.length_nil, Nat.reduceAdd, Nat.reduceSub, Array.replicate_succ, Array.replicate_zero, List.push_toArray, List.append_toArray, List.nil_append, List.cons_append]
  gi_wp2
  have bO := Boxed.new w 112 (.slice none 0 0)
  have hB0 : Below w.heap.size w (w.alloc (.cells #[.slice none 0 0] 112)) := (Below.refl _ w).alloc (Nat.le_refl _) _
  have hI1 := Own.from (holdsRow_own w.heap.size w.heap.size 112 27 3 (fun pre : List Kid => pre.length) (fun pre => cellsL kcL pre) (fun pre v => v = .slice none 0 0 ↔ pre = [])) (w.alloc (.cells #[.slice none 0 0] 112)).heap.size
  have hI2 : OwnFrom (w.alloc (.cells #[.slice none 0 0] 112)).heap.size (fun (_ : List Kid) W => Below w.heap.size w W) := ownFrom_below (Nat.le_refl _) (by simp)
  refine wpIn_rangeFunc_ownH hro h1 (gf := gf) (lb := lb) rfl hFg eg hseq (fun h k => walksK_t h k) (fun W l o o' h1 h2 h3 h4 => walksK_b (w := w.alloc (.cells #[.slice none 0 0] 112)) W l o o' h1 h2 h3 h4) (hb0.trans (hB0.mono hb0.size)) (fun _ => rfl)
    (fun pre W => (∃ v, Boxed W w.heap.size 112 v ∧ W.ownsRow w.heap.size 27 3 v pre.length (cellsL kcL pre) ∧ (v = .slice none 0 0 ↔ pre = [])) ∧ Below w.heap.size w W)
    (fun _ _ _ => False)
    (OwnFrom.and hI1 hI2)
    (fun _ _ _ _ _ hs _ _ => hs)
    ⟨⟨_, bO, World.ownsRow_nil _ _ _ _, by simp⟩, hB0⟩
    (fun x a' W => ∃ B, kBox W B x ∧ a' = { tmps := #[.slice none 0 0, .func (.func gf) #[] lb, .pointer (some ⟨w.heap.size, 0, none⟩), undef, .slice none 0 0, .pointer (some ⟨B, 0, none⟩), .func (.func gf) #[] lb, kidV x, undef, undef, undef, undef, undef], defers := [] })
    (fun x a' => Own.from (fun _ _ _ _ hs hg hr => by obtain ⟨B, h1, h2⟩ := hs; exact ⟨B, h1.kept hg hr, h2⟩) _) ?assign ?body ?done ?stop
  case assign =>
    intro l pre x W K hI hK
    simp only [encKy, show kidV x = .agg #[.int .u8 x.t.c, .int .u64 x.t.r, .int .u8 x.i] from rfl]
    gi_wp2
    obtain ⟨⟨v, hv, hrow, hn⟩, hB⟩ := hI
    exact hK _ _ ((KeepsOthers.alloc W _).from _) (KeepsWalks.alloc W _) ⟨⟨v, hv.alloc _, World.ownsRow.alloc hrow _, hn⟩, hB.alloc hB.size _⟩ ⟨W.heap.size, World.alloc_heap_new W _, rfl⟩
  case stop =>
    rintro D c pre W _ _ h _
    exact h.elim
  case done =>
    rintro D ys W hD hS ⟨⟨v, hv, hrow, hn⟩, hB⟩ hK
    have hc := hv.cell
    gi_wp2
    refine ⟨by simp, .inl ⟨_, _, rfl, run_takeDeferred hK, ?_⟩⟩
    exact ⟨_, results_tmp rfl _ _ _, v, ys, rfl, hS, ownsRow_putObj hrow _ hK rfl, hn, hB.grown (grownBy_putObj' W D _) hB.size (fun k e => by cases e; simp at hD; omega)⟩
  case body =>
    rintro l pre x a' W hl hlo ⟨⟨v, hv, hrow, hn⟩, hB⟩ ⟨B, hbx, rfl⟩ hlt
    have hc0 := hv.cell
    have hf0 := hv.frozen
    have cA : W.cell? ⟨B, 0, none⟩ = some (.int .u8 x.t.c) := by simp [World.cell?, show W.heap[B]? = _ from hbx]
    have cB : W.cell? ⟨B, 1, none⟩ = some (.int .u64 x.t.r) := by simp [World.cell?, show W.heap[B]? = _ from hbx]
    have cC : W.cell? ⟨B, 2, none⟩ = some (.int .u8 x.i) := by simp [World.cell?, show W.heap[B]? = _ from hbx]
    have ld : Sem.run Tryz.prog (loadCellsFrom ⟨B, 0, none⟩ 0 3 #[]) W = .ok #[.int .u8 x.t.c, .int .u64 x.t.r, .int .u8 x.i] W := run_loadCellsFrom_list Tryz.prog W ⟨B, 0, none⟩ (kcL x) 3 rfl (fun i u hi => by
      rcases i with _ | _ | _ | i
      · exact cA.trans hi
      · exact cB.trans hi
      · exact cC.trans hi
      · cases hi)
    obtain ⟨i0, hi, hz0, hz1, hz2⟩ := info_parts kkrow
    obtain ⟨va, vc, rfl, -, -, -⟩ := own_slice hrow
    have hsz : w.heap.size ≤ W.heap.size := hB.size
    have hone : ∀ v ∈ kcL x, v.oneCell' = true := by intro v hv; simp [kcL] at hv; rcases hv with rfl | rfl | rfl <;> rfl
    have hcl : ∀ (j : Nat) (u : Value), (kcL x)[j]? = some u → (W.alloc (.cells #[.int .u8 x.t.c, .int .u64 x.t.r, .int .u8 x.i] 27)).cell? ((Addr.mk W.heap.size 0 none).add j) = some u := fun i u hi => by
        rcases i with _ | _ | _ | i
        · exact (cell_new (w := W) (b := W.heap.size) rfl).trans hi
        · exact (cell_new (w := W) (b := W.heap.size) rfl).trans hi
        · exact (cell_new (w := W) (b := W.heap.size) rfl).trans hi
        · cases hi
    gi_wp2_with (first
      | (gi_at_builtin; refine wpListIn_append_own _ rfl _ _ 112 rfl w.heap.size 27 i0 _ 3 24 Tryz.underlying112 hi hz0 hz1 hz2 rfl (by decide) _ _ _ rfl (World.ownsRow.alloc hrow _) ⟨W.heap.size, 0, none⟩ 1 1 (kcL x) rfl rfl hcl hone (by unfold maxLen; omega) (by omega) (by simp; omega) ?_
         intro v' w' hown' hgrow' hnil'
         obtain ⟨g', cap', rfl⟩ := ownsRow_succ hown'
         obtain ⟨hv1, hv2, hr2, hkk, hbb⟩ := hv.appended (n₀ := w.heap.size) (by decide) hrow hsz (Nat.le_refl _) hown' hgrow'
         have q1 := hv1.cell
         have q2 := hv1.frozen
         go_frame)
      | gi_in)
    refine ⟨hkk.from _, hkk.walks, ⟨_, hv2, ?_, by simp⟩, hB.trans hbb⟩
    rw [List.length_append, cellsL_snoc]
    exact hr2
end Go.Proofs.YtnkghdakjdhhdaaGreat
end
section
namespace Go.Proofs.YtnkghdakjdhhdaaGreat
open Go.RowKit Go.Lib Go.Tk Go.Shelf Go.Maps Go.Sort
set_option maxHeartbeats 400000 in
theorem compareB_any (a b : Int) (w : World) : Calls Tryz.prog 110 #[.int .u8 a, .int .u8 b] w fun e w' => e = .returned (.int .i64 (cmpI a b)) ∧ w = w' := by
  have h63 : ∀ (x : Int) (w : World), Calls Tryz.prog 141 #[.int .u8 x] w fun e w' => e = .returned (.bool false) ∧ w = w' := by
    intro x w
    go_enter Tryz.func141, Tryz.ntmps141
    go_wp2
    go_ret
    exact ⟨rfl, rfl⟩
  have H := hid h63
  clear h63
  rcases Int.lt_trichotomy a b with h | rfl | h
  · have F : Hid (cmpI a b = -1) := by unfold Hid cmpI; rw [if_pos h]
    go_enter Tryz.func110, Tryz.ntmps110
    go_wp2_with (go_at_call 141; refine (H.out _ _).mono ?_; rintro e w' ⟨rfl, rfl⟩)
    go_ret
    exact ⟨ret_i (by rw [F.out]), rfl⟩
  · have F : Hid (cmpI a a = 0) := by unfold Hid cmpI; simp
    go_enter Tryz.func110, Tryz.ntmps110
    go_wp2_with (go_at_call 141; refine (H.out _ _).mono ?_; rintro e w' ⟨rfl, rfl⟩)
    go_ret
    exact ⟨ret_i (by rw [F.out]), rfl⟩
  · have F : Hid (cmpI a b = 1) := by unfold Hid cmpI; rw [if_neg (by omega), if_pos h]
    go_enter Tryz.func110, Tryz.ntmps110
    go_wp2_with (go_at_call 141; refine (H.out _ _).mono ?_; rintro e w' ⟨rfl, rfl⟩)
    go_ret
    exact ⟨ret_i (by rw [F.out]), rfl⟩
def orI (a b c : Int) : Int := if a = 0 then (if b = 0 then c else b) else a
set_option maxHeartbeats 2000000 in
theorem or_any (B : Nat) (a b c : Int) (w : World) (h0 : w.cell? ⟨B, 0, none⟩ = some (.int .i64 a)) (h1 : w.cell? ⟨B, 1, none⟩ = some (.int .i64 b)) (h2 : w.cell? ⟨B, 2, none⟩ = some (.int .i64 c)) :
    Calls Tryz.prog 109 #[.slice (some ⟨B, 0, none⟩) 3 3] w fun e w' => e = .returned (.int .i64 (orI a b c)) ∧ w = w' := by
  by_cases ha : a = 0
  · by_cases hb : b = 0
    · by_cases hc : c = 0
      · have E : Hid (orI a b c = 0) := by unfold Hid orI; rw [if_pos ha, if_pos hb]; exact hc
        subst ha hb hc
        go_enter Tryz.func109, Tryz.ntmps109
        go_wp2
        refine wp_loop_rounds 4 ?_
        iterate 4 (rw [rounds_succ]; go_wp2)
        go_ret
        exact ⟨ret_i (by rw [E.out]), rfl⟩
      · have E : Hid (orI a b c = c) := by unfold Hid orI; rw [if_pos ha, if_pos hb]
        subst ha hb
        go_enter Tryz.func109, Tryz.ntmps109
        go_wp2
        refine wp_loop_rounds 4 ?_
        iterate 3 (rw [rounds_succ]; go_wp2)
        go_ret
        exact ⟨ret_i (by rw [E.out]), rfl⟩
    · have E : Hid (orI a b c = b) := by unfold Hid orI; rw [if_pos ha, if_neg hb]
      subst ha
      go_enter Tryz.func109, Tryz.ntmps109
      go_wp2
      refine wp_loop_rounds 4 ?_
      iterate 2 (rw [rounds_succ]; go_wp2)
      go_ret
      exact ⟨ret_i (by rw [E.out]), rfl⟩
  · have E : Hid (orI a b c = a) := by unfold Hid orI; rw [if_neg ha]
    go_enter Tryz.func109, Tryz.ntmps109
    go_wp2
    refine wp_loop_rounds 4 ?_
    rw [rounds_succ]; go_wp2
    go_ret
    exact ⟨ret_i (by rw [E.out]), rfl⟩
end Go.Proofs.YtnkghdakjdhhdaaGreat
end
section
namespace Go.Proofs.YtnkghdakjdhhdaaGreat
open Go.RowKit Go.Lib Go.Tk Go.Shelf Go.Maps Go.Sort
def cfK (x y : Kid) : Int := orI (cmpI x.t.c y.t.c) (cmpI x.t.r y.t.r) (cmpI x.i y.i)
set_option maxHeartbeats 8000000 in
theorem keys1_any (x y : Kid) (w : World) : Calls Tryz.prog 108 #[.agg (kcL x).toArray, .agg (kcL y).toArray] w fun e w' => e = .returned (.int .i64 (cfK x y)) ∧ ∃ q os', w' = grow (w.drewN q) os' := by
  obtain ⟨⟨xc, xr⟩, xi⟩ := x
  obtain ⟨⟨yc, yr⟩, yi⟩ := y
  simp only [kcL, cfK]
  have hmx : Tryz.prog.follows .mixedOrders = true := by kernel_rfl
  go_enter Tryz.func108, Tryz.ntmps108
  go_upto_region 1 with fail
  obtain ⟨W1, hW1⟩ : ∃ W1, W1 = ((w.alloc (.cells #[.int .u8 xc, .int .u64 xr, .int .u8 xi] 27)).alloc (.cells #[.int .u8 yc, .int .u64 yr, .int .u8 yi] 27)).drew := ⟨_, rfl⟩
  obtain ⟨W2, hW2⟩ : ∃ W2, W2 = W1.alloc (.cells #[.int .i64 (cmpI xc yc), .int .i64 (cmpI xr yr), .int .i64 (cmpI xi yi)] 3) := ⟨_, rfl⟩
  have x1 : Box W1 w.heap.size #[.int .u8 xc, .int .u64 xr, .int .u8 xi] := by rw [hW1]; exact ((Box.new (w := w) rfl).kept (below_alloc _ _)).kept (Below.refl _ _).drew
  have x2 : Box W1 (w.heap.size + 1) #[.int .u8 yc, .int .u64 yr, .int .u8 yi] := by
    rw [hW1]
    have h0 : Box ((w.alloc (.cells #[.int .u8 xc, .int .u64 xr, .int .u8 xi] 27)).alloc (.cells #[.int .u8 yc, .int .u64 yr, .int .u8 yi] 27)) (w.alloc (.cells #[.int .u8 xc, .int .u64 xr, .int .u8 xi] 27)).heap.size #[.int .u8 yc, .int .u64 yr, .int .u8 yi] := Box.new rfl
    rw [World.size_alloc] at h0
    exact h0.kept (Below.refl _ _).drew
  have k7 : W1.cell? ⟨w.heap.size, 0, none⟩ = some (.int .u8 xc) := x1.cell 0 rfl
  have k14 : W1.cell? ⟨w.heap.size, 1, none⟩ = some (.int .u64 xr) := x1.cell 1 rfl
  have k20 : W1.cell? ⟨w.heap.size, 2, none⟩ = some (.int .u8 xi) := x1.cell 2 rfl
  have k10 : W1.cell? ⟨w.heap.size + 1, 0, none⟩ = some (.int .u8 yc) := x2.cell 0 rfl
  have k17 : W1.cell? ⟨w.heap.size + 1, 1, none⟩ = some (.int .u64 yr) := x2.cell 1 rfl
  have k22 : W1.cell? ⟨w.heap.size + 1, 2, none⟩ = some (.int .u8 yi) := x2.cell 2 rfl
  have x3 : Box W2 W1.heap.size #[.int .i64 (cmpI xc yc), .int .i64 (cmpI xr yr), .int .i64 (cmpI xi yi)] := by rw [hW2]; exact Box.new rfl
  have q0 : W2.cell? ⟨W1.heap.size, 0, none⟩ = some (.int .i64 (cmpI xc yc)) := x3.cell 0 rfl
  have q1 : W2.cell? ⟨W1.heap.size, 1, none⟩ = some (.int .i64 (cmpI xr yr)) := x3.cell 1 rfl
  have q2 : W2.cell? ⟨W1.heap.size, 2, none⟩ = some (.int .i64 (cmpI xi yi)) := x3.cell 2 rfl
  have HW1 := hid hW1
  have HW2 := hid hW2
  clear hW1 hW2 x1 x2 x3
  refine wp_region_vals (fun zz => (#[.pointer (some ⟨w.heap.size, 0, none⟩), .pointer (some ⟨w.heap.size, 0, none⟩), .int .u8 xc, .pointer (some ⟨(w.heap.size + 1), 0, none⟩), .pointer (some ⟨(w.heap.size + 1), 0, none⟩), .int .u8 yc, .int .i64 (cmpI xc yc), .pointer (some ⟨w.heap.size, 0, none⟩), .pointer (some ⟨w.heap.size, 1, none⟩), .int .u64 xr, .pointer (some ⟨(w.heap.size + 1), 0, none⟩), .pointer (some ⟨(w.heap.size + 1), 1, none⟩), .int .u64 yr, .int .i64 (cmpI xr yr), .pointer (some ⟨w.heap.size, 2, none⟩), .int .u8 xi, .pointer (some ⟨(w.heap.size + 1), 2, none⟩), .int .u8 yi, .int .i64 (cmpI xi yi), .slice (some ⟨W1.heap.size, 0, none⟩) 3 3, .int .i64 (orI (cmpI xc yc) (cmpI xr yr) (cmpI xi yi)), .int .i64 (orI (cmpI xc yc) (cmpI xr yr) (cmpI xi yi))] : Array Value).getD zz undef) (fun k wx => wx = (match k with | 0 => W1 | _ => W2)) [19] [[], [0], [0, 1], [], [3], [3, 4], [0, 1, 2, 3, 4, 5], [], [7], [7, 8], [], [10], [10, 11], [7, 8, 9, 10, 11, 12], [], [14], [], [16], [14, 15, 16, 17], [0, 1, 2, 3, 4, 5, 6, 7, 8, 9, 10, 11, 12, 13, 14, 15, 16, 17, 18], [0, 1, 2, 3, 4, 5, 6, 7, 8, 9, 10, 11, 12, 13, 14, 15, 16, 17, 18, 19], [0, 1, 2, 3, 4, 5, 6, 7, 8, 9, 10, 11, 12, 13, 14, 15, 16, 17, 18, 19, 20]] [0, 0, 0, 0, 0, 0, 0, 0, 0, 0, 0, 0, 0, 0, 0, 0, 0, 0, 0, 0, 1, 1] [0, 0, 0, 0, 0, 0, 0, 0, 0, 0, 0, 0, 0, 0, 0, 0, 0, 0, 0, 0, 1, 1] hmx (by kernel_rfl) (by kernel_rfl) (by kernel_rfl) HW1.out.symm ?_ ?_
  · intro ρ hc hg hf hd ho
    refine ⟨?_, ?_, ?_, ?_, ?_, ?_, ?_, ?_, ?_, ?_, ?_, ?_, ?_, ?_, ?_, ?_, ?_, ?_, ?_, ?_, ?_, ?_, trivial⟩
    · intro zk wx hl hh _ hO -- 0: fieldAddr 26 t2 0
      have e2 : ρ (.tmp 2) = .pointer (some ⟨w.heap.size, 0, none⟩) := ho 2 (by rfl)
      obtain rfl : zk = 0 := by simp at hl hh; omega
      refine (if_pos (by rfl)).mpr ?_
      simp [go_sem, execOp, resolve, invoke, builtin, opRes_value, opRes_skip, opRes_enter, hc, hg, hf, hO, e2]
    · intro zk wx hl hh _ hO -- 1: fieldAddr 24 t5 0
      have e5 : ρ (.tmp 5) = .pointer (some ⟨w.heap.size, 0, none⟩) := hd 0 _ 5 rfl rfl
      obtain rfl : zk = 0 := by simp at hl hh; omega
      refine (if_pos (by rfl)).mpr ?_
      simp [go_sem, execOp, resolve, invoke, builtin, opRes_value, opRes_skip, opRes_enter, hc, hg, hf, hO, e5]
    · intro zk wx hl hh _ hO -- 2: load 5 t6
      have e6 : ρ (.tmp 6) = .pointer (some ⟨w.heap.size, 0, none⟩) := hd 1 _ 6 rfl rfl
      obtain rfl : zk = 0 := by simp at hl hh; omega
      refine (if_pos (by rfl)).mpr ?_
      have f0 := k7
      obtain rfl : wx = W1 := hO
      have hO := True.intro
      simp [go_sem, execOp, resolve, invoke, builtin, opRes_value, opRes_skip, opRes_enter, hc, hg, hf, hO, e6, f0]
    · intro zk wx hl hh _ hO -- 3: fieldAddr 26 t3 0
      have e3 : ρ (.tmp 3) = .pointer (some ⟨(w.heap.size + 1), 0, none⟩) := ho 3 (by rfl)
      obtain rfl : zk = 0 := by simp at hl hh; omega
      refine (if_pos (by rfl)).mpr ?_
      simp [go_sem, execOp, resolve, invoke, builtin, opRes_value, opRes_skip, opRes_enter, hc, hg, hf, hO, e3]
    · intro zk wx hl hh _ hO -- 4: fieldAddr 24 t8 0
      have e8 : ρ (.tmp 8) = .pointer (some ⟨(w.heap.size + 1), 0, none⟩) := hd 3 _ 8 rfl rfl
      obtain rfl : zk = 0 := by simp at hl hh; omega
      refine (if_pos (by rfl)).mpr ?_
      simp [go_sem, execOp, resolve, invoke, builtin, opRes_value, opRes_skip, opRes_enter, hc, hg, hf, hO, e8]
    · intro zk wx hl hh _ hO -- 5: load 5 t9
      have e9 : ρ (.tmp 9) = .pointer (some ⟨(w.heap.size + 1), 0, none⟩) := hd 4 _ 9 rfl rfl
      obtain rfl : zk = 0 := by simp at hl hh; omega
      refine (if_pos (by rfl)).mpr ?_
      have f0 := k10
      obtain rfl : wx = W1 := hO
      have hO := True.intro
      simp [go_sem, execOp, resolve, invoke, builtin, opRes_value, opRes_skip, opRes_enter, hc, hg, hf, hO, e9, f0]
    · intro zk wx hl hh _ hO -- 6: call { value (Operand.func 67), args := #[t7, t10], argTypes := #[5, 5] }
      have e7 : ρ (.tmp 7) = .int .u8 xc := hd 2 _ 7 rfl rfl
      have e10 : ρ (.tmp 10) = .int .u8 yc := hd 5 _ 10 rfl rfl
      obtain rfl : zk = 0 := by simp at hl hh; omega
      refine (if_pos (by rfl)).mpr ?_
      obtain rfl : wx = W1 := hO
      have hO := True.intro
      simp [go_sem, execOp, resolve, invoke, builtin, opRes_value, opRes_skip, opRes_enter, hc, hg, hf, hO, e7, e10]
      exact (compareB_any _ _ _).mono fun e wy h => ⟨h.1, h.2.symm⟩
    · intro zk wx hl hh _ hO -- 7: fieldAddr 26 t2 0
      have e2 : ρ (.tmp 2) = .pointer (some ⟨w.heap.size, 0, none⟩) := ho 2 (by rfl)
      obtain rfl : zk = 0 := by simp at hl hh; omega
      refine (if_pos (by rfl)).mpr ?_
      simp [go_sem, execOp, resolve, invoke, builtin, opRes_value, opRes_skip, opRes_enter, hc, hg, hf, hO, e2]
    · intro zk wx hl hh _ hO -- 8: fieldAddr 24 t12 1
      have e12 : ρ (.tmp 12) = .pointer (some ⟨w.heap.size, 0, none⟩) := hd 7 _ 12 rfl rfl
      obtain rfl : zk = 0 := by simp at hl hh; omega
      refine (if_pos (by rfl)).mpr ?_
      simp [go_sem, execOp, resolve, invoke, builtin, opRes_value, opRes_skip, opRes_enter, hc, hg, hf, hO, e12]
    · intro zk wx hl hh _ hO -- 9: load 22 t13
      have e13 : ρ (.tmp 13) = .pointer (some ⟨w.heap.size, 1, none⟩) := hd 8 _ 13 rfl rfl
      obtain rfl : zk = 0 := by simp at hl hh; omega
      refine (if_pos (by rfl)).mpr ?_
      have f0 := k14
      obtain rfl : wx = W1 := hO
      have hO := True.intro
      simp [go_sem, execOp, resolve, invoke, builtin, opRes_value, opRes_skip, opRes_enter, hc, hg, hf, hO, e13, f0]
    · intro zk wx hl hh _ hO -- 10: fieldAddr 26 t3 0
      have e3 : ρ (.tmp 3) = .pointer (some ⟨(w.heap.size + 1), 0, none⟩) := ho 3 (by rfl)
      obtain rfl : zk = 0 := by simp at hl hh; omega
      refine (if_pos (by rfl)).mpr ?_
      simp [go_sem, execOp, resolve, invoke, builtin, opRes_value, opRes_skip, opRes_enter, hc, hg, hf, hO, e3]
    · intro zk wx hl hh _ hO -- 11: fieldAddr 24 t15 1
      have e15 : ρ (.tmp 15) = .pointer (some ⟨(w.heap.size + 1), 0, none⟩) := hd 10 _ 15 rfl rfl
      obtain rfl : zk = 0 := by simp at hl hh; omega
      refine (if_pos (by rfl)).mpr ?_
      simp [go_sem, execOp, resolve, invoke, builtin, opRes_value, opRes_skip, opRes_enter, hc, hg, hf, hO, e15]
    · intro zk wx hl hh _ hO -- 12: load 22 t16
      have e16 : ρ (.tmp 16) = .pointer (some ⟨(w.heap.size + 1), 1, none⟩) := hd 11 _ 16 rfl rfl
      obtain rfl : zk = 0 := by simp at hl hh; omega
      refine (if_pos (by rfl)).mpr ?_
      have f0 := k17
      obtain rfl : wx = W1 := hO
      have hO := True.intro
      simp [go_sem, execOp, resolve, invoke, builtin, opRes_value, opRes_skip, opRes_enter, hc, hg, hf, hO, e16, f0]
    · intro zk wx hl hh _ hO -- 13: call { value (Operand.func 62), args := #[t14, t17], argTypes := #[22, 22] }
      have e14 : ρ (.tmp 14) = .int .u64 xr := hd 9 _ 14 rfl rfl
      have e17 : ρ (.tmp 17) = .int .u64 yr := hd 12 _ 17 rfl rfl
      obtain rfl : zk = 0 := by simp at hl hh; omega
      refine (if_pos (by rfl)).mpr ?_
      obtain rfl : wx = W1 := hO
      have hO := True.intro
      simp [go_sem, execOp, resolve, invoke, builtin, opRes_value, opRes_skip, opRes_enter, hc, hg, hf, hO, e14, e17]
      exact (compareU_any _ _ _).mono fun e wy h => ⟨h.1, h.2.symm⟩
    · intro zk wx hl hh _ hO -- 14: fieldAddr 26 t2 1
      have e2 : ρ (.tmp 2) = .pointer (some ⟨w.heap.size, 0, none⟩) := ho 2 (by rfl)
      obtain rfl : zk = 0 := by simp at hl hh; omega
      refine (if_pos (by rfl)).mpr ?_
      simp [go_sem, execOp, resolve, invoke, builtin, opRes_value, opRes_skip, opRes_enter, hc, hg, hf, hO, e2]
    · intro zk wx hl hh _ hO -- 15: load 5 t19
      have e19 : ρ (.tmp 19) = .pointer (some ⟨w.heap.size, 2, none⟩) := hd 14 _ 19 rfl rfl
      obtain rfl : zk = 0 := by simp at hl hh; omega
      refine (if_pos (by rfl)).mpr ?_
      have f0 := k20
      obtain rfl : wx = W1 := hO
      have hO := True.intro
      simp [go_sem, execOp, resolve, invoke, builtin, opRes_value, opRes_skip, opRes_enter, hc, hg, hf, hO, e19, f0]
    · intro zk wx hl hh _ hO -- 16: fieldAddr 26 t3 1
      have e3 : ρ (.tmp 3) = .pointer (some ⟨(w.heap.size + 1), 0, none⟩) := ho 3 (by rfl)
      obtain rfl : zk = 0 := by simp at hl hh; omega
      refine (if_pos (by rfl)).mpr ?_
      simp [go_sem, execOp, resolve, invoke, builtin, opRes_value, opRes_skip, opRes_enter, hc, hg, hf, hO, e3]
    · intro zk wx hl hh _ hO -- 17: load 5 t21
      have e21 : ρ (.tmp 21) = .pointer (some ⟨(w.heap.size + 1), 2, none⟩) := hd 16 _ 21 rfl rfl
      obtain rfl : zk = 0 := by simp at hl hh; omega
      refine (if_pos (by rfl)).mpr ?_
      have f0 := k22
      obtain rfl : wx = W1 := hO
      have hO := True.intro
      simp [go_sem, execOp, resolve, invoke, builtin, opRes_value, opRes_skip, opRes_enter, hc, hg, hf, hO, e21, f0]
    · intro zk wx hl hh _ hO -- 18: call { value (Operand.func 67), args := #[t20, t22], argTypes := #[5, 5] }
      have e20 : ρ (.tmp 20) = .int .u8 xi := hd 15 _ 20 rfl rfl
      have e22 : ρ (.tmp 22) = .int .u8 yi := hd 17 _ 22 rfl rfl
      obtain rfl : zk = 0 := by simp at hl hh; omega
      refine (if_pos (by rfl)).mpr ?_
      obtain rfl : wx = W1 := hO
      have hO := True.intro
      simp [go_sem, execOp, resolve, invoke, builtin, opRes_value, opRes_skip, opRes_enter, hc, hg, hf, hO, e20, e22]
      exact (compareB_any _ _ _).mono fun e wy h => ⟨h.1, h.2.symm⟩
    · intro zk wx hl hh _ hO -- 19: buildSlice 197 3 #[(0, t11), (1, t18), (2, t23)]
      have e11 : ρ (.tmp 11) = .int .i64 (cmpI xc yc) := hd 6 _ 11 rfl rfl
      have e18 : ρ (.tmp 18) = .int .i64 (cmpI xr yr) := hd 13 _ 18 rfl rfl
      have e23 : ρ (.tmp 23) = .int .i64 (cmpI xi yi) := hd 18 _ 23 rfl rfl
      obtain rfl : zk = 0 := by simp at hl hh; omega
      refine (if_pos (by rfl)).mpr ?_
      obtain rfl : wx = W1 := hO
      have hO := True.intro
      simp [go_sem, execOp, resolve, invoke, builtin, opRes_value, opRes_skip, opRes_enter, hc, hg, hf, hO, e11, e18, e23]
      exact HW2.out.symm
    · intro zk wx hl hh _ hO -- 20: call { value (Operand.func 66), args := #[t24], argTypes := #[197] }
      have e24 : ρ (.tmp 24) = .slice (some ⟨W1.heap.size, 0, none⟩) 3 3 := hd 19 _ 24 rfl rfl
      obtain rfl : zk = 1 := by simp at hl hh; omega
      refine (if_pos (by rfl)).mpr ?_
      obtain rfl : wx = W2 := hO
      have hO := True.intro
      simp [go_sem, execOp, resolve, invoke, builtin, opRes_value, opRes_skip, opRes_enter, hc, hg, hf, hO, e24]
      exact (or_any _ _ _ _ _ q0 q1 q2).mono fun e wy h => ⟨h.1, h.2.symm⟩
    · intro zk wx hl hh _ hO -- 21: assign t25
      have e25 : ρ (.tmp 25) = .int .i64 (orI (cmpI xc yc) (cmpI xr yr) (cmpI xi yi)) := hd 20 _ 25 rfl rfl
      obtain rfl : zk = 1 := by simp at hl hh; omega
      refine (if_pos (by rfl)).mpr ?_
      simp [go_sem, execOp, resolve, invoke, builtin, opRes_value, opRes_skip, opRes_enter, hc, hg, hf, hO, e25]
  · intro wx hO
    simp only [ssaAct, Act.put, List.setIfInBounds_toArray, List.set_cons_zero, List.set_cons_succ, Nat.zero_add, Nat.reduceAdd]
    obtain rfl : wx = W2 := hO
    go_wp2
    go_ret
    refine ⟨rfl, 1, #[.cells #[.int .u8 xc, .int .u64 xr, .int .u8 xi] 27, .cells #[.int .u8 yc, .int .u64 yr, .int .u8 yi] 27, .cells #[.int .i64 (cmpI xc yc), .int .i64 (cmpI xr yr), .int .i64 (cmpI xi yi)] 3], ?_⟩
    rw [HW2.out, HW1.out]
    rfl
end Go.Proofs.YtnkghdakjdhhdaaGreat
end
