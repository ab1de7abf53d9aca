/- Coup1, Coup2, Coup3, SxQ, Lw16, Ex0. -/
import Derived.Test.YtifapcpcemigdaaGreatRows
import Derived.Test.YtifapcpcemigdaaGreatM642530e
import Derived.DeepKeys4
import Derived.Deep.LoopGhost
import Derived.Test.YtifapcpcemigdaaGreatSxE
import Derived.Test.YtifapcpcemigdaaGreatM533403a
set_option maxRecDepth 100000
set_option linter.unusedVariables false
set_option linter.unusedSimpArgs false
set_option linter.unusedSectionVars false
section
namespace Go.Proofs.YtifapcpcemigdaaGreat
open Go.RowKit Go.Lib Go.Tk Go.Maps
theorem Tryz.laidOutC : laidOutB Tryz.prog = true := by kernel_rfl
theorem step_law : WideMaps.KeyLaw Tryz.prog 244 := deep_law_laid Tryz.laidOutC (m := 3) (by omega) (of_decide_eq_true (by kernel_rfl)) (by kernel_rfl) (by kernel_rfl)
theorem cells51 : Tryz.prog.cellsOf 244 = 2 := by kernel_rfl
theorem cells22 : Tryz.prog.cellsOf 44 = 1 := by kernel_rfl
theorem cells5 : Tryz.prog.cellsOf 5 = 1 := by kernel_rfl
theorem typesSize : ∃ n, Tryz.prog.types.size = n + 1 := ⟨Tryz.prog.types.size - 1, by have : 0 < Tryz.prog.types.size := of_decide_eq_true (by kernel_rfl); omega⟩
theorem keyOf_step (a b : Int) (ha : (Lit.int .u8 a).wf = true) (hb : (Lit.int .u8 b).wf = true) : ∃ l, keyOf Tryz.prog 244 (.agg #[.int .u8 a, .int .u8 b]) = some l := by
  have h1 : Tryz.prog.keyType 244 = true := by kernel_rfl
  have h2 : (Value.agg #[.int .u8 a, .int .u8 b]).formed Tryz.prog 244 = true := by simp [Value.formed, Tryz.underlying244, cells51]
  have h3 : Tryz.prog.keyLits (Tryz.prog.types.size + 1) 244 [.int .u8 a, .int .u8 b] = some [.int .u8 a, .int .u8 b] := by
    obtain ⟨n, hn⟩ := typesSize
    rw [hn, tkKeyStruct Tryz.underlying244 _ _ (by rw [cells51]; rfl) (by kernel_rfl)]
    simp [cells22, cells5, tkKeyInt Tryz.underlying44 n ha, tkKeyInt Tryz.underlying5 n hb]
  refine ⟨.string (keyBytes [.int .u8 a, .int .u8 b]), ?_⟩
  unfold keyOf
  rw [Tryz.underlying244]
  simp only [h1, h2, Bool.and_true, if_true, Value.cells, h3, Option.map_some]
def stepK : KeyKind Tryz.prog 244 (Int × Int) where
  kv := fun x => .agg #[.int .u8 x.1, .int .u8 x.2]
  ok := fun x => (Lit.int .u8 x.1).wf = true ∧ (Lit.int .u8 x.2).wf = true
  inj := fun {x y} h => by
    simp only [Value.agg.injEq, Array.mk.injEq, List.cons.injEq, Value.int.injEq, true_and, and_true] at h
    exact Prod.ext h.1 h.2
  keyed := Keyed.of_law step_law
  reads := fun {x} h => keyOf_step x.1 x.2 h.1 h.2
def waysL : List ((Int × Int) × Value) := [((1, 9), .int .u8 2), ((2, 10), .int .u8 1), ((2, 11), .int .u8 3), ((3, 12), .int .u8 4), ((1, 3), .int .u8 5), ((1, 4), .int .u8 6), ((1, 5), .int .u8 7)]
def entOf {α : Type} : List Bool → List α → List α
  | b :: f, x :: l => if b then x :: entOf f l else entOf f l
  | _, _ => []
theorem entOf_set {α : Type} : ∀ (f : List Bool) (l : List α) (j : Nat) (x : α), f[j]? = some false → l[j]? = some x → (entOf (f.set j true) l).Perm (x :: entOf f l)
  | [], _, j, _, h, _ => by simp at h
  | b :: f, [], j, _, _, h => by simp at h
  | b :: f, y :: l, 0, x, h, h' => by
    simp only [List.getElem?_cons_zero, Option.some.injEq] at h h'
    subst h; subst h'; simp [entOf]
  | b :: f, y :: l, j + 1, x, h, h' => by
    have := entOf_set f l j x (by simpa using h) (by simpa using h')
    cases b
    · simpa [entOf] using this
    · simp only [List.set_cons_succ, entOf, if_true]
      exact (this.cons y).trans (List.Perm.swap _ _ _)
theorem entOf_sub {α : Type} : ∀ (f : List Bool) (l : List α), (entOf f l).Sublist l
  | [], l => by cases l <;> simp [entOf]
  | _ :: _, [] => by simp [entOf]
  | b :: f, x :: l => by
    cases b
    · simp only [entOf, Bool.false_eq_true, if_false]; exact (entOf_sub f l).cons x
    · simp only [entOf, if_true]; exact (entOf_sub f l).cons_cons x
theorem entOf_not {f : List Bool} {l : List ((Int × Int) × Value)} {j : Nat} {x : (Int × Int) × Value} (hn : (l.map (·.1)).Nodup) (hf : f[j]? = some false) (hl : l[j]? = some x) : putL (entOf f l) x.1 x.2 = x :: entOf f l := by
  unfold putL
  congr 1
  rw [List.filter_eq_self]
  intro p hp
  have h1 : ((entOf (f.set j true) l).map (·.1)).Nodup := hn.sublist ((entOf_sub _ _).map _)
  have h2 := ((entOf_set f l j x hf hl).map (·.1)).nodup_iff.1 h1
  simp only [List.map_cons, List.nodup_cons] at h2
  have : p.1 ≠ x.1 := fun e => h2.1 (by rw [← e]; exact List.mem_map_of_mem (f := (·.1)) hp)
  simp [this]
def flagsOf (l : Array Bool) : List Bool := [l.getD 2 false, l.getD 4 false, l.getD 6 false, l.getD 8 false, l.getD 10 false, l.getD 12 false, l.getD 14 false]
theorem waysL_nodup : (waysL.map (·.1)).Nodup := by decide
def WaysInv (w0 : World) (B : Nat) (l : Array Bool) (a : Act) (w : World) : Prop :=
  ∃ s0 s1 s2 s3 s4 s5 s6 s7 s8 s9 : Value, a = { tmps := #[s0, s1, s2, s3, s4, s5, s6, s7, s8, s9], defers := [] } ∧ (l.getD 0 false = true → s1 = .map (some B)) ∧
  (l.getD 1 false = true → s2 = stepK.kv (1, 9)) ∧
  (l.getD 3 false = true → s3 = stepK.kv (2, 10)) ∧
  (l.getD 5 false = true → s4 = stepK.kv (2, 11)) ∧
  (l.getD 7 false = true → s5 = stepK.kv (3, 12)) ∧
  (l.getD 9 false = true → s6 = stepK.kv (1, 3)) ∧
  (l.getD 11 false = true → s7 = stepK.kv (1, 4)) ∧
  (l.getD 13 false = true → s8 = stepK.kv (1, 5)) ∧
  (l.getD 15 false = true → s9 = .map (some B)) ∧ (l.getD 16 false = true → s0 = .map (some B)) ∧ (l.getD 0 false = false → w = w0 ∧ flagsOf l = [false, false, false, false, false, false, false]) ∧
  (l.getD 0 false = true → MapAt stepK w B (entOf (flagsOf l) waysL)) ∧ Below w0.heap.size w0 w
set_option maxRecDepth 100000 in
set_option maxHeartbeats 4000000 in
theorem ways_any (w : World) : Calls Tryz.prog 161 #[] w fun e w' => ∃ b, e = .returned (.map (some b)) ∧ MapAt stepK w' b waysL ∧ Below w.heap.size w w' ∧ w.heap.size ≤ b := by
  go_enter Tryz.func161, Tryz.ntmps161
  go_wp2
  refine wp_region_any (by kernel_rfl) ?_
  refine wpAny_inv (WaysInv w.drew w.heap.size) ?_ ?_ _ _ _ _ (by simp) (by simp) ?_
  · intro l a w1 hs hI i hi
    obtain ⟨h1, h2⟩ := List.mem_filter.1 hi
    have hi17 : i < 17 := by simpa using h1
    have hl : l.size = 17 := hs
    obtain ⟨b0, b1, b2, b3, b4, b5, b6, b7, b8, b9, b10, b11, b12, b13, b14, b15, b16, rfl⟩ : ∃ b0 b1 b2 b3 b4 b5 b6 b7 b8 b9 b10 b11 b12 b13 b14 b15 b16 : Bool, l = #[b0, b1, b2, b3, b4, b5, b6, b7, b8, b9, b10, b11, b12, b13, b14, b15, b16] := by
      match l, hl with
      | ⟨[b0, b1, b2, b3, b4, b5, b6, b7, b8, b9, b10, b11, b12, b13, b14, b15, b16]⟩, _ => exact ⟨_, _, _, _, _, _, _, _, _, _, _, _, _, _, _, _, _, rfl⟩
    clear hi h1 hs hl
    obtain ⟨s0, s1, s2, s3, s4, s5, s6, s7, s8, s9, rfl, c0, c1, c2, c3, c4, c5, c6, c7, c8, c9, d0, d1, hb⟩ := hI
    simp only [flagsOf, Array.getD_eq_getD_getElem?, List.getElem?_toArray, List.getElem?_cons_succ, List.getElem?_cons_zero, Option.getD_some] at c0 c1 c2 c3 c4 c5 c6 c7 c8 c9 d0 d1
    have hc : i = 0 ∨ i = 1 ∨ i = 2 ∨ i = 3 ∨ i = 4 ∨ i = 5 ∨ i = 6 ∨ i = 7 ∨ i = 8 ∨ i = 9 ∨ i = 10 ∨ i = 11 ∨ i = 12 ∨ i = 13 ∨ i = 14 ∨ i = 15 ∨ i = 16 := by omega
    rcases hc with rfl | rfl | rfl | rfl | rfl | rfl | rfl | rfl | rfl | rfl | rfl | rfl | rfl | rfl | rfl | rfl | rfl
    · simp [Region.binds] at h2
      subst h2
      obtain ⟨rfl, hfl⟩ := d0 rfl
      unfold wpOp
      have hmm := @run_makeMap Tryz.prog
      go_simp
      left
      refine ⟨s0, _, s2, s3, s4, s5, s6, s7, s8, s9, rfl, fun _ => rfl, c1, c2, c3, c4, c5, c6, c7, c8, c9, fun h => by simp at h, fun _ => ?_, hb.alloc (Nat.le_refl _) _⟩
      have : flagsOf #[true, b1, b2, b3, b4, b5, b6, b7, b8, b9, b10, b11, b12, b13, b14, b15, b16] = [false, false, false, false, false, false, false] := hfl
      rw [this]
      exact MapAt.made stepK w.drew
    · simp [Region.binds] at h2
      subst h2
      unfold wpOp
      go_simp
      left
      exact ⟨s0, s1, _, s3, s4, s5, s6, s7, s8, s9, rfl, c0, fun _ => rfl, c2, c3, c4, c5, c6, c7, c8, c9, d0, d1, hb⟩
    · simp [Region.binds] at h2
      obtain ⟨h2, h3, h4⟩ := h2
      subst h2
      subst h3
      obtain rfl := c0 rfl
      obtain rfl := c1 h4
      subst h4
      obtain ⟨w', hrun, hm, hg⟩ := (d1 rfl).update Tryz.underlying240 (x := (1, 9)) ⟨by decide, by decide⟩ (.int .u8 2)
      rw [entOf_not (x := ((1, 9), .int .u8 2)) waysL_nodup (j := 0) rfl rfl] at hm
      have hm2 := hm.perm (entOf_set _ waysL 0 _ rfl rfl).symm
      clear hm d0
      unfold wpOp
      go_simp
      left
      exact ⟨_, _, _, _, _, _, _, _, _, _, rfl, c0, c1, c2, c3, c4, c5, c6, c7, c8, c9, fun h => by simp at h, fun _ => hm2, hb.grown hg hb.size (fun j hj => by cases hj; exact Nat.le_refl _)⟩
    · simp [Region.binds] at h2
      subst h2
      unfold wpOp
      go_simp
      left
      exact ⟨s0, s1, s2, _, s4, s5, s6, s7, s8, s9, rfl, c0, c1, fun _ => rfl, c3, c4, c5, c6, c7, c8, c9, d0, d1, hb⟩
    · simp [Region.binds] at h2
      obtain ⟨h2, h3, h4⟩ := h2
      subst h2
      subst h3
      obtain rfl := c0 rfl
      obtain rfl := c2 h4
      subst h4
      obtain ⟨w', hrun, hm, hg⟩ := (d1 rfl).update Tryz.underlying240 (x := (2, 10)) ⟨by decide, by decide⟩ (.int .u8 1)
      rw [entOf_not (x := ((2, 10), .int .u8 1)) waysL_nodup (j := 1) rfl rfl] at hm
      have hm2 := hm.perm (entOf_set _ waysL 1 _ rfl rfl).symm
      clear hm d0
      unfold wpOp
      go_simp
      left
      exact ⟨_, _, _, _, _, _, _, _, _, _, rfl, c0, c1, c2, c3, c4, c5, c6, c7, c8, c9, fun h => by simp at h, fun _ => hm2, hb.grown hg hb.size (fun j hj => by cases hj; exact Nat.le_refl _)⟩
    · simp [Region.binds] at h2
      subst h2
      unfold wpOp
      go_simp
      left
      exact ⟨s0, s1, s2, s3, _, s5, s6, s7, s8, s9, rfl, c0, c1, c2, fun _ => rfl, c4, c5, c6, c7, c8, c9, d0, d1, hb⟩
    · simp [Region.binds] at h2
      obtain ⟨h2, h3, h4⟩ := h2
      subst h2
      subst h3
      obtain rfl := c0 rfl
      obtain rfl := c3 h4
      subst h4
      obtain ⟨w', hrun, hm, hg⟩ := (d1 rfl).update Tryz.underlying240 (x := (2, 11)) ⟨by decide, by decide⟩ (.int .u8 3)
      rw [entOf_not (x := ((2, 11), .int .u8 3)) waysL_nodup (j := 2) rfl rfl] at hm
      have hm2 := hm.perm (entOf_set _ waysL 2 _ rfl rfl).symm
      clear hm d0
      unfold wpOp
      go_simp
      left
      exact ⟨_, _, _, _, _, _, _, _, _, _, rfl, c0, c1, c2, c3, c4, c5, c6, c7, c8, c9, fun h => by simp at h, fun _ => hm2, hb.grown hg hb.size (fun j hj => by cases hj; exact Nat.le_refl _)⟩
    · simp [Region.binds] at h2
      subst h2
      unfold wpOp
      go_simp
      left
      exact ⟨s0, s1, s2, s3, s4, _, s6, s7, s8, s9, rfl, c0, c1, c2, c3, fun _ => rfl, c5, c6, c7, c8, c9, d0, d1, hb⟩
    · simp [Region.binds] at h2
      obtain ⟨h2, h3, h4⟩ := h2
      subst h2
      subst h3
      obtain rfl := c0 rfl
      obtain rfl := c4 h4
      subst h4
      obtain ⟨w', hrun, hm, hg⟩ := (d1 rfl).update Tryz.underlying240 (x := (3, 12)) ⟨by decide, by decide⟩ (.int .u8 4)
      rw [entOf_not (x := ((3, 12), .int .u8 4)) waysL_nodup (j := 3) rfl rfl] at hm
      have hm2 := hm.perm (entOf_set _ waysL 3 _ rfl rfl).symm
      clear hm d0
      unfold wpOp
      go_simp
      left
      exact ⟨_, _, _, _, _, _, _, _, _, _, rfl, c0, c1, c2, c3, c4, c5, c6, c7, c8, c9, fun h => by simp at h, fun _ => hm2, hb.grown hg hb.size (fun j hj => by cases hj; exact Nat.le_refl _)⟩
    · simp [Region.binds] at h2
      subst h2
      unfold wpOp
      go_simp
      left
      exact ⟨s0, s1, s2, s3, s4, s5, _, s7, s8, s9, rfl, c0, c1, c2, c3, c4, fun _ => rfl, c6, c7, c8, c9, d0, d1, hb⟩
    · simp [Region.binds] at h2
      obtain ⟨h2, h3, h4⟩ := h2
      subst h2
      subst h3
      obtain rfl := c0 rfl
      obtain rfl := c5 h4
      subst h4
      obtain ⟨w', hrun, hm, hg⟩ := (d1 rfl).update Tryz.underlying240 (x := (1, 3)) ⟨by decide, by decide⟩ (.int .u8 5)
      rw [entOf_not (x := ((1, 3), .int .u8 5)) waysL_nodup (j := 4) rfl rfl] at hm
      have hm2 := hm.perm (entOf_set _ waysL 4 _ rfl rfl).symm
      clear hm d0
      unfold wpOp
      go_simp
      left
      exact ⟨_, _, _, _, _, _, _, _, _, _, rfl, c0, c1, c2, c3, c4, c5, c6, c7, c8, c9, fun h => by simp at h, fun _ => hm2, hb.grown hg hb.size (fun j hj => by cases hj; exact Nat.le_refl _)⟩
    · simp [Region.binds] at h2
      subst h2
      unfold wpOp
      go_simp
      left
      exact ⟨s0, s1, s2, s3, s4, s5, s6, _, s8, s9, rfl, c0, c1, c2, c3, c4, c5, fun _ => rfl, c7, c8, c9, d0, d1, hb⟩
    · simp [Region.binds] at h2
      obtain ⟨h2, h3, h4⟩ := h2
      subst h2
      subst h3
      obtain rfl := c0 rfl
      obtain rfl := c6 h4
      subst h4
      obtain ⟨w', hrun, hm, hg⟩ := (d1 rfl).update Tryz.underlying240 (x := (1, 4)) ⟨by decide, by decide⟩ (.int .u8 6)
      rw [entOf_not (x := ((1, 4), .int .u8 6)) waysL_nodup (j := 5) rfl rfl] at hm
      have hm2 := hm.perm (entOf_set _ waysL 5 _ rfl rfl).symm
      clear hm d0
      unfold wpOp
      go_simp
      left
      exact ⟨_, _, _, _, _, _, _, _, _, _, rfl, c0, c1, c2, c3, c4, c5, c6, c7, c8, c9, fun h => by simp at h, fun _ => hm2, hb.grown hg hb.size (fun j hj => by cases hj; exact Nat.le_refl _)⟩
    · simp [Region.binds] at h2
      subst h2
      unfold wpOp
      go_simp
      left
      exact ⟨s0, s1, s2, s3, s4, s5, s6, s7, _, s9, rfl, c0, c1, c2, c3, c4, c5, c6, fun _ => rfl, c8, c9, d0, d1, hb⟩
    · simp [Region.binds] at h2
      obtain ⟨h2, h3, h4⟩ := h2
      subst h2
      subst h3
      obtain rfl := c0 rfl
      obtain rfl := c7 h4
      subst h4
      obtain ⟨w', hrun, hm, hg⟩ := (d1 rfl).update Tryz.underlying240 (x := (1, 5)) ⟨by decide, by decide⟩ (.int .u8 7)
      rw [entOf_not (x := ((1, 5), .int .u8 7)) waysL_nodup (j := 6) rfl rfl] at hm
      have hm2 := hm.perm (entOf_set _ waysL 6 _ rfl rfl).symm
      clear hm d0
      unfold wpOp
      go_simp
      left
      exact ⟨_, _, _, _, _, _, _, _, _, _, rfl, c0, c1, c2, c3, c4, c5, c6, c7, c8, c9, fun h => by simp at h, fun _ => hm2, hb.grown hg hb.size (fun j hj => by cases hj; exact Nat.le_refl _)⟩
    · simp [Region.binds] at h2
      have h3 : b0 = true := by simp_all
      have h4 := h2.1
      subst h4
      subst h3
      obtain rfl := c0 rfl
      clear h2
      unfold wpOp
      go_simp
      left
      exact ⟨_, _, _, _, _, _, _, _, _, _, rfl, c0, c1, c2, c3, c4, c5, c6, c7, fun _ => rfl, c9, d0, d1, hb⟩
    · simp [Region.binds] at h2
      have h3 : b15 = true := by simp_all
      have h4 := h2.1
      subst h4
      subst h3
      obtain rfl := c8 rfl
      clear h2
      unfold wpOp
      go_simp
      left
      exact ⟨_, _, _, _, _, _, _, _, _, _, rfl, c0, c1, c2, c3, c4, c5, c6, c7, c8, fun _ => rfl, d0, d1, hb⟩
  · intro l a w1 hs hI hr
    have hl : l.size = 17 := hs
    obtain ⟨b0, b1, b2, b3, b4, b5, b6, b7, b8, b9, b10, b11, b12, b13, b14, b15, b16, rfl⟩ : ∃ b0 b1 b2 b3 b4 b5 b6 b7 b8 b9 b10 b11 b12 b13 b14 b15 b16 : Bool, l = #[b0, b1, b2, b3, b4, b5, b6, b7, b8, b9, b10, b11, b12, b13, b14, b15, b16] := by
      match l, hl with
      | ⟨[b0, b1, b2, b3, b4, b5, b6, b7, b8, b9, b10, b11, b12, b13, b14, b15, b16]⟩, _ => exact ⟨_, _, _, _, _, _, _, _, _, _, _, _, _, _, _, _, _, rfl⟩
    have hh := List.filter_eq_nil_iff.1 hr
    have e0 := hh 0 (by simp)
    simp [Region.binds] at e0
    subst e0
    have e1 := hh 1 (by simp)
    simp [Region.binds] at e1
    subst e1
    have e3 := hh 3 (by simp)
    simp [Region.binds] at e3
    subst e3
    have e5 := hh 5 (by simp)
    simp [Region.binds] at e5
    subst e5
    have e7 := hh 7 (by simp)
    simp [Region.binds] at e7
    subst e7
    have e9 := hh 9 (by simp)
    simp [Region.binds] at e9
    subst e9
    have e11 := hh 11 (by simp)
    simp [Region.binds] at e11
    subst e11
    have e13 := hh 13 (by simp)
    simp [Region.binds] at e13
    subst e13
    have e2 := hh 2 (by simp)
    simp [Region.binds] at e2
    subst e2
    have e4 := hh 4 (by simp)
    simp [Region.binds] at e4
    subst e4
    have e6 := hh 6 (by simp)
    simp [Region.binds] at e6
    subst e6
    have e8 := hh 8 (by simp)
    simp [Region.binds] at e8
    subst e8
    have e10 := hh 10 (by simp)
    simp [Region.binds] at e10
    subst e10
    have e12 := hh 12 (by simp)
    simp [Region.binds] at e12
    subst e12
    have e14 := hh 14 (by simp)
    simp [Region.binds] at e14
    subst e14
    have e15 := hh 15 (by simp)
    simp [Region.binds] at e15
    subst e15
    have e16 := hh 16 (by simp)
    simp [Region.binds] at e16
    subst e16
    obtain ⟨s0, s1, s2, s3, s4, s5, s6, s7, s8, s9, rfl, c0, c1, c2, c3, c4, c5, c6, c7, c8, c9, d0, d1, hb⟩ := hI
    obtain rfl := c9 rfl
    have hm := d1 rfl
    clear c0 c1 c2 c3 c4 c5 c6 c7 c8 c9 d0 d1 hh hr hs hl
    go_wp2
    go_ret
    exact ⟨_, rfl, hm, ((Below.refl w.heap.size w).drew).trans hb, Nat.le_refl _⟩
  · refine ⟨_, _, _, _, _, _, _, _, _, _, rfl, fun h => by simp at h, fun h => by simp at h, fun h => by simp at h, fun h => by simp at h, fun h => by simp at h, fun h => by simp at h, fun h => by simp at h, fun h => by simp at h, fun h => by simp at h, fun h => by simp at h, fun _ => ⟨rfl, rfl⟩, fun h => by simp at h, Below.refl _ _⟩
end Go.Proofs.YtifapcpcemigdaaGreat
end
section
namespace Go.Proofs.YtifapcpcemigdaaGreat
open Go.RowKit Go.Lib Go.Tk Go.Maps
theorem stepK_kv (x : Int × Int) : stepK.kv x = .agg #[.int .u8 x.1, .int .u8 x.2] := rfl
def hasCmd (L : List ((Int × Int) × Value)) (c : Int) : Bool := L.any fun p => p.1.2 == c
theorem hasCmd_perm {L left left' : List ((Int × Int) × Value)} {p : (Int × Int) × Value} {c : Int} (hp : left.Perm (p :: left')) (h : hasCmd L c = hasCmd left c) (hne : p.1.2 ≠ c) : hasCmd L c = hasCmd left' c := by
  rw [h]; unfold hasCmd
  rw [hp.any_eq]; simp [hne]
set_option maxHeartbeats 1000000 in
theorem known_any (b : Nat) (L : List ((Int × Int) × Value)) (cmd : Int) (w : World) (hm : MapAt stepK w b L) :
    Calls Tryz.prog 162 #[.map (some b), .int .u8 cmd] w fun e w' => e = .returned (.bool (hasCmd L cmd)) ∧ Below w.heap.size w w' := by
  have Hm := hid hm
  clear hm
  go_enter Tryz.func162, Tryz.ntmps162
  go_wp2_with (at_range; refine wpList_range_map rfl _ 240 rfl Tryz.underlying240 rfl Hm.out ?_; intro w1 hrg hb1; go_frame)
  have Hrg := hid hrg
  clear hrg
  go_loopg [] L.length (fun k wr => ∃ left, k = left.length ∧ Hid (Ranging stepK wr w.heap.size b L left) ∧ Hid (hasCmd L cmd = hasCmd left cmd) ∧ Below w.heap.size w wr)
  case atStart => exact ⟨L, rfl, Hrg, rfl, hb1⟩
  case round =>
    obtain ⟨left, rfl, hr, hc, hbel⟩ := hrel
    go_wp2_with (at_next; refine wpList_next_map rfl _ rfl rfl hr.out ?_ ?_)
    · intro hnil
      subst hnil
      go_wp2
      go_ret
      exact ⟨ret_bool (by rw [hc.out]; rfl), hbel⟩
    · intro a c v left' w2 hp hmem hr2 hg hen
      simp only [stepK_kv] at hen ⊢
      have hb2 : Below w.heap.size w w2 := hbel.grown hg hbel.size (fun j hj => by cases hj; exact Nat.le_refl _)
      have Hr2 := hid hr2
      have Hp := hid hp
      have hlen := hp.length_eq
      have Hmem := hid hmem
      clear hp hmem hr2 hg
      simp only [List.length_cons] at hlen
      have HL := hid hlen
      clear hlen
      by_cases hcc : c = cmd
      · have hcb : (c == cmd) = true := by simpa using hcc
        have HC := hid hcc
        clear hcc
        go_wp2
        go_ret
        refine ⟨ret_bool ?_, hb2.alloc hb2.size _⟩
        symm; unfold hasCmd; rw [List.any_eq_true]
        exact ⟨_, Hmem.out, by simpa using HC.out⟩
      · have hcb : (c == cmd) = false := by simpa using hcc
        have HC := hid hcc
        clear hcc
        go_wp2
        go_roundg left'.length
        case measure => have := HL.out; omega
        case rel => exact ⟨left', rfl, hid (Hr2.out.kept ((Below.refl _ _).alloc (Nat.le_refl _) _)), hid (hasCmd_perm Hp.out hc.out HC.out), hb2.alloc hb2.size _⟩
end Go.Proofs.YtifapcpcemigdaaGreat
end
section
namespace Go.Proofs.YtifapcpcemigdaaGreat
open Go.RowKit Go.Lib Go.Tk Go.Maps
def isB (s : Int) : Bool := decide (1 ≤ s) && decide (s ≤ 7)
set_option maxHeartbeats 400000 in
theorem is_any (s : Int) (w : World) :
    Calls Tryz.prog 40 #[.int .u8 s] w fun e w' => e = .returned (.bool (isB s)) ∧ w = w' := by
  go_enter Tryz.func40, Tryz.ntmps40
  go_wp2
  all_goals (go_ret; refine ⟨ret_bool ?_, rfl⟩; unfold isB; rw [Bool.eq_iff_iff]; simp; omega)
def cmdB (c : Int) : Bool := c == 9 || c == 10 || c == 11 || c == 12 || c == 3 || c == 4 || c == 5
theorem hasCmd_ways (c : Int) : hasCmd waysL c = cmdB c := by
  unfold hasCmd cmdB waysL
  rw [Bool.eq_iff_iff]
  simp only [List.any_cons, List.any_nil, Bool.or_false, Bool.or_eq_true, beq_iff_eq]
  omega
def toI (s c : Int) : Option Int :=
  if s = 1 ∧ c = 9 then some 2 else if s = 2 ∧ c = 10 then some 1 else if s = 2 ∧ c = 11 then some 3 else if s = 3 ∧ c = 12 then some 4
  else if s = 1 ∧ c = 3 then some 5 else if s = 1 ∧ c = 4 then some 6 else if s = 1 ∧ c = 5 then some 7 else none
theorem lk_ways (s c : Int) : lk waysL (s, c) = (toI s c).map (.int .u8) := by
  have e : ∀ (a b : Int), decide (((a, b) : Int × Int) = (s, c)) = decide (s = a ∧ c = b) := by
    intro a b; rw [decide_eq_decide]; simp only [Prod.mk.injEq]; omega
  unfold lk waysL toI
  simp only [List.find?_cons, e, List.find?_nil]
  repeat (split <;> simp_all)
def nextI (s c : Int) : Int × Int :=
  if isB s && cmdB c then (match toI s c with | some v => (v, 0) | none => (0, 6)) else (0, 1)
theorem zero22 (w : World) : (zeroValue 44).run Tryz.prog w = .ok (.int .u8 0) w := by kernel_rfl
theorem ret_ui2 {a b c d : Int} (h : (a, b) = (c, d)) : Ending.returned (.tuple #[.int .u8 a, .int .i64 b]) = .returned (.tuple #[.int .u8 c, .int .i64 d]) := ret_i2 h
set_option maxHeartbeats 1000000 in
theorem next_any (s c : Int) (w : World) (hs : (Lit.int .u8 s).wf = true) (hc : (Lit.int .u8 c).wf = true) :
    Calls Tryz.prog 123 #[.int .u8 s, .int .u8 c] w fun e w' => e = .returned (.tuple #[.int .u8 (nextI s c).1, .int .i64 (nextI s c).2]) ∧ Below w.heap.size w w' := by
  have Hs := hid hs
  have Hc := hid hc
  clear hs hc
  have hz := zero22
  have Hz := hid hz
  clear hz
  cases hi : isB s
  · have F := hid (show nextI s c = (0, 1) by simp [nextI, hi])
    go_enter Tryz.func123, Tryz.ntmps123
    go_wp2_with fail
    refine (ways_any _).mono ?_
    rintro e w1 ⟨b, rfl, hm, hb, -⟩
    go_wp2_with (at_lookup; refine wpList_lookup_map (K := stepK) rfl _ _ 240 true rfl Tryz.underlying240 Hz.out rfl hm (s, c) ⟨Hs.out, Hc.out⟩ rfl ?_)
    refine (is_any _ _).mono ?_
    rintro e w' ⟨rfl, rfl⟩
    go_wp2
    go_ret2
    exact ⟨ret_ui2 (by rw [F.out]), hb⟩
  cases hk : cmdB c
  · have F := hid (show nextI s c = (0, 1) by simp [nextI, hk])
    go_enter Tryz.func123, Tryz.ntmps123
    go_wp2_with fail
    refine (ways_any _).mono ?_
    rintro e w1 ⟨b, rfl, hm, hb, -⟩
    go_wp2_with (at_lookup; refine wpList_lookup_map (K := stepK) rfl _ _ 240 true rfl Tryz.underlying240 Hz.out rfl hm (s, c) ⟨Hs.out, Hc.out⟩ rfl ?_)
    refine (is_any _ _).mono ?_
    rintro e w' ⟨rfl, rfl⟩
    go_wp2_with fail
    refine (known_any _ _ _ _ (hm.kept (Below.refl _ _))).mono ?_
    rintro e w2 ⟨rfl, hb2⟩
    rw [hasCmd_ways]
    go_wp2
    go_ret2
    exact ⟨ret_ui2 (by rw [F.out]), bt hb hb2⟩
  cases ht : toI s c with
  | none =>
    have F := hid (show nextI s c = (0, 6) by simp [nextI, hk, hi, ht])
    have hl : lk waysL (s, c) = none := by rw [lk_ways, ht]; rfl
    clear ht
    go_enter Tryz.func123, Tryz.ntmps123
    go_wp2_with fail
    refine (ways_any _).mono ?_
    rintro e w1 ⟨b, rfl, hm, hb, -⟩
    go_wp2_with (at_lookup; refine wpList_lookup_map (K := stepK) rfl _ _ 240 true rfl Tryz.underlying240 Hz.out rfl hm (s, c) ⟨Hs.out, Hc.out⟩ rfl ?_)
    refine (is_any _ _).mono ?_
    rintro e w' ⟨rfl, rfl⟩
    go_wp2_with fail
    refine (known_any _ _ _ _ (hm.kept (Below.refl _ _))).mono ?_
    rintro e w2 ⟨rfl, hb2⟩
    rw [hasCmd_ways]
    go_wp2
    go_ret2
    exact ⟨ret_ui2 (by rw [F.out]), bt hb hb2⟩
  | some v =>
    have F := hid (show nextI s c = (v, 0) by simp [nextI, hk, hi, ht])
    have hl : lk waysL (s, c) = some (.int .u8 v) := by rw [lk_ways, ht]; rfl
    clear ht
    go_enter Tryz.func123, Tryz.ntmps123
    go_wp2_with fail
    refine (ways_any _).mono ?_
    rintro e w1 ⟨b, rfl, hm, hb, -⟩
    go_wp2_with (at_lookup; refine wpList_lookup_map (K := stepK) rfl _ _ 240 true rfl Tryz.underlying240 Hz.out rfl hm (s, c) ⟨Hs.out, Hc.out⟩ rfl ?_)
    refine (is_any _ _).mono ?_
    rintro e w' ⟨rfl, rfl⟩
    go_wp2_with fail
    refine (known_any _ _ _ _ (hm.kept (Below.refl _ _))).mono ?_
    rintro e w2 ⟨rfl, hb2⟩
    rw [hasCmd_ways]
    go_wp2
    go_ret2
    exact ⟨ret_ui2 (by rw [F.out]), bt hb hb2⟩
end Go.Proofs.YtifapcpcemigdaaGreat
end
section
namespace Go.Sx
open Go.RowKit Go.Tk Go.Lib Go.Shelf Go.Vc
def QF (E : TypeId) (size : Nat) (w : World) (v : Value) (n : Nat) (xs : List Value) : Prop :=
  xs.length = n * size ∧ ((v = .slice none 0 0 ∧ n = 0) ∨ ∃ g lo cap cur, v = .slice (some ⟨g, lo * size, none⟩) n cap ∧ BoxE (some E) w g cur ∧ n ≤ cap ∧ cap ≤ maxLen ∧ (lo + cap) * size ≤ cur.size ∧ (cur.toList.drop (lo * size)).take (n * size) = xs)
theorem QF.cell {E : TypeId} {size : Nat} {w : World} {v : Value} {n : Nat} {xs : List Value} (h : QF E size w v n xs) {i : Nat} {u : Value} (hi : xs[i]? = some u) : ∃ g off cap, v = .slice (some ⟨g, off, none⟩) n cap ∧ w.cell? ⟨g, off + i, none⟩ = some u := by
  obtain ⟨hl, ⟨h1, h2⟩ | ⟨g, lo, cap, cur, hv, hb, h1, h2, h3, h4⟩⟩ := h
  · subst h2
    have := (List.getElem?_eq_some_iff.1 hi).1
    rw [hl, Nat.zero_mul] at this
    exact absurd this (Nat.not_lt_zero _)
  · refine ⟨g, _, cap, hv, hb.cell _ ?_⟩
    have hil := (List.getElem?_eq_some_iff.1 hi).1
    rw [← h4, List.getElem?_take_of_lt (by rw [← hl]; exact hil), List.getElem?_drop] at hi
    simpa using hi
theorem QF.is {E : TypeId} {size : Nat} {w : World} {v : Value} {n : Nat} {xs : List Value} (h : QF E size w v n xs) : ∃ a c, v = .slice a n c := by
  obtain ⟨hl, ⟨h1, h2⟩ | ⟨g, lo, cap, cur, hv, -⟩⟩ := h
  · exact ⟨_, _, by rw [h1, h2]⟩
  · exact ⟨_, _, hv⟩
section
variable {P : Program} {w : World}
variable {α : Type} {enc : α → List Value} {E size : Nat}
end
end Go.Sx
end
section
namespace Go.Proofs.YtifapcpcemigdaaGreat
open Go.RowKit Go.Lib Go.Tk Go.Shelf Go.Vc Go.Sx
def legsS : List Leg → List SV
  | [] => []
  | x :: l => legS' x ++ legsS l
def taxesS : List Tax → List SV
  | [] => []
  | x :: l => taxS' x ++ taxesS l
theorem legs_dens (ε : Env) : ∀ l : List Leg, SV.dens ε (legsS l) = cellsL encLeg l
  | [] => rfl
  | x :: l => by
    unfold legsS
    rw [dens_append, legs_dens ε l]; rfl
theorem taxes_dens (ε : Env) : ∀ l : List Tax, SV.dens ε (taxesS l) = cellsL encTax l
  | [] => rfl
  | x :: l => by
    unfold taxesS
    rw [dens_append, taxes_dens ε l]; rfl
def legD (n : Nat) (l : List Leg) : SC := .row 43 3 n (.deep (legsS l)) []
def taxD (n : Nat) (l : List Tax) : SC := .row 154 2 n (.deep (taxesS l)) []
def noTen : Nat → Nat → Bool := fun s k => !(Nat.beq s 0 && (Nat.beq k 9))
theorem row_sl {E size : Nat} {w : World} {v : Value} {n : Nat} {xs : List Value} (h : RowF E size w v n xs) : ∃ a c, v = .slice a n c ∧ SlOk a n c := by
  obtain ⟨-, ⟨h1, h2⟩ | ⟨g, cap, cur, h1, -⟩⟩ := h
  · exact ⟨none, 0, by rw [h1, h2], ⟨fun _ => ⟨h2, rfl⟩⟩⟩
  · exact ⟨_, cap, h1, ⟨fun e => by cases e⟩⟩
theorem raw2 {f : Nat} {args : SV → SV → List SV} {pre post : Heap} {ret : SV} {s : SaleV} (hargs : ∀ ε ε' x y x' y', SV.den ε x = SV.den ε' x' → SV.den ε y = SV.den ε' y' → (∀ s k, noTen s k = true → ε s k = ε' s k) → SV.dens ε (args x y) = SV.dens ε' (args x' y'))
    (h : ∀ (F : CF) (A : SaleA), (∀ b v, Rd (F b v) A.la (cellsL encLeg s.legs)) → (∀ b v, Rd (F b v) A.ta (cellsL encTax s.taxes)) → SlOk A.la s.legs.length A.lc → SlOk A.ta s.taxes.length A.tc →
      CallOK Tryz.prog f (args (.val (.slice A.la s.legs.length A.lc)) (.val (.slice A.ta s.taxes.length A.tc))) [((0, 9), .fam F)] pre ret post)
    (h1 : hok noTen pre = true) (h2 : ret.ok noTen = true) (h3 : hok noTen post = true) :
    CallOK Tryz.prog f (args (.raw 0 10) (.raw 0 11)) [((0, 10), legD s.legs.length s.legs), ((0, 11), taxD s.taxes.length s.taxes)] pre ret post := by
  intro ε R w hM
  have hM : Mem (rowC 43 3 (asSl (ε 0 10).2) s.legs.length (SV.dens ε (legsS s.legs)) :: rowC 154 2 (asSl (ε 0 11).2) s.taxes.length (SV.dens ε (taxesS s.taxes)) :: (hden ε pre ++ R)) w := hM
  rw [legs_dens, taxes_dens] at hM
  obtain ⟨la, lc, hvl, okl⟩ := row_sl (hM.owns 0 rfl)
  obtain ⟨ta, tc, hvt, okt⟩ := row_sl (hM.owns 1 rfl)
  rw [hvl, hvt] at hM
  have hc := h (fun _ _ => allC [rowC 43 3 (.slice la s.legs.length lc) s.legs.length (cellsL encLeg s.legs), rowC 154 2 (.slice ta s.taxes.length tc) s.taxes.length (cellsL encTax s.taxes)]) ⟨la, lc, ta, tc⟩
    (fun b v S w hS => by obtain ⟨F, f1, f2, f3⟩ := hS; exact rd_row _ _ (f2 0 _ rfl)) (fun b v S w hS => by obtain ⟨F, f1, f2, f3⟩ := hS; exact rd_row _ _ (f2 1 _ rfl)) okl okt
  have key : ∀ s k, noTen s k = true → ε s k = eset ε 0 (fun k => bif Nat.beq k 9 then (0, undef) else ε 0 k) s k := fun s k hs => by
    by_cases h0 : s = 0
    · subst h0
      rw [eset_at]
      cases hb : Nat.beq k 9 with
      | false => rfl
      | true => unfold noTen at hs; rw [hb] at hs; cases hs
    · rw [eset_ne h0]
  have hA : SV.dens ε (args (.raw 0 10) (.raw 0 11)) = SV.dens (eset ε 0 fun k => bif Nat.beq k 9 then (0, undef) else ε 0 k) (args (.val (.slice la s.legs.length lc)) (.val (.slice ta s.taxes.length tc))) :=
    hargs _ _ _ _ _ _ (by simp only [SV.den]; exact hvl) (by simp only [SV.den]; exact hvt) key
  rw [hA]
  have hM2 := Mem.in_all (l := [rowC 43 3 (.slice la s.legs.length lc) s.legs.length (cellsL encLeg s.legs), rowC 154 2 (.slice ta s.taxes.length tc) s.taxes.length (cellsL encTax s.taxes)]) hM
  rw [hden_congr key h1] at hM2
  refine (hc _ R w hM2).mono ?_
  rintro e w' ⟨x, rfl, hm⟩
  have key' : ∀ s k, noTen s k = true → eset ε 1 x s k = eset (eset ε 0 fun k => bif Nat.beq k 9 then (0, undef) else ε 0 k) 1 x s k := fun s k hs => by
    by_cases h0 : s = 1
    · subst h0; rw [eset_at, eset_at]
    · rw [eset_ne h0, eset_ne h0]; exact key s k hs
  refine ⟨x, by rw [SV.den_congr key' ret h2], ?_⟩
  have hm : Mem (allC [rowC 43 3 (.slice la s.legs.length lc) s.legs.length (cellsL encLeg s.legs), rowC 154 2 (.slice ta s.taxes.length tc) s.taxes.length (cellsL encTax s.taxes)] :: (hden (eset (eset ε 0 fun k => bif Nat.beq k 9 then (0, undef) else ε 0 k) 1 x) post ++ R)) w' := hm
  rw [← hden_congr key' h3] at hm
  have hm := hm.all
  show Mem ((legD s.legs.length s.legs).den (eset ε 1 x) 0 10 :: (taxD s.taxes.length s.taxes).den (eset ε 1 x) 0 11 :: (hden (eset ε 1 x) post ++ R)) w'
  simp only [legD, taxD, SC.den, SL.den, legs_dens, taxes_dens]
  rw [eset_ne (show (0 : Nat) ≠ 1 by decide), hvl, hvt]
  exact hm
theorem book_new_ok (self n : Int) (h : 0 ≤ self ∧ self < n ∧ 2 ≤ n ∧ n ≤ 8) : BookOk (bookNew self n) := ⟨⟨h.1, h.2.1⟩, ⟨h.2.2.1, h.2.2.2⟩, fun i d hd => by simp [bookNew] at hd, by simp [bookNew]⟩
end Go.Proofs.YtifapcpcemigdaaGreat
end
section
namespace Go.Proofs.YtifapcpcemigdaaGreat
open Go.RowKit Go.Lib Go.Tk Go.Shelf Go.Vc Go.Sx
theorem callOK_pure {f : Nat} {args : List SV} {ret : SV} (h : ∀ ε w, Calls Tryz.prog f (SV.dens ε args).toArray w fun e w' => e = .returned (ret.den ε) ∧ Below w.heap.size w w') : CallOK Tryz.prog f args [] [] ret [] := by
  intro ε R w hM
  have hM : Mem R w := hM
  refine (h ε w).mono ?_
  rintro e w' ⟨rfl, hb⟩
  exact ⟨ε 1, by rw [eset_self], by rw [eset_self]; exact hM.kept hb⟩
theorem callOK_row1 {f E size n : Nat} {xs : List Value} {ret : SV} {post : Heap} (hr : ret.ok no0 = true) (hp : hok no0 post = true)
    (h : ∀ (F : CF) (a : Option Addr) (c : Nat), (∀ b v, Rd (F b v) a xs) → SlOk a n c → CallOK Tryz.prog f [.val (.slice a n c)] [((0, 0), .fam F)] [] ret post) :
    CallOK Tryz.prog f [.raw 0 0] [((0, 0), .row E size n (.shal xs) [])] [] ret post := by
  intro ε R w hM
  have hM : Mem (rowC E size (asSl (ε 0 0).2) n xs :: R) w := hM
  obtain ⟨a, c, hv, hok⟩ := row_sl (hM.owns 0 rfl)
  have hA : (SV.dens ε [.raw 0 0]).toArray = (SV.dens ε [.val (.slice a n c)]).toArray := by simp only [SV.dens, SV.den]; rw [hv]
  rw [hA]
  rw [hv] at hM
  refine (h (fun _ _ => rowC E size (.slice a n c) n xs) a c (fun b v S w hS => rd_row _ _ hS) hok ε R w hM).mono ?_
  rintro e w' ⟨x, rfl, hm⟩
  refine ⟨x, rfl, ?_⟩
  have hm : Mem (rowC E size (.slice a n c) n xs :: (hden (eset ε 1 x) post ++ R)) w' := hm
  show Mem (rowC E size (asSl (eset ε 1 x 0 0).2) n xs :: (hden (eset ε 1 x) post ++ R)) w'
  rw [eset_ne (show (0 : Nat) ≠ 1 by decide), hv]
  exact hm
end Go.Proofs.YtifapcpcemigdaaGreat
end
