/- COUPON 1: the ways, a map literal whose entries are laid in whatever order. -/
import Derived.Test.YtdnaegleifhmgaaGreatRows
import Derived.Test.YtdnaegleifhmgaaGreatM642530e
import Derived.DeepKeys4
namespace Go.Proofs.YtdnaegleifhmgaaGreat
set_option maxRecDepth 100000
open Go.RowKit Go.Lib Go.Tk Go.Maps
theorem Tryz.laidOutC : laidOutB Tryz.prog = true := by kernel_rfl
theorem step_law : WideMaps.KeyLaw Tryz.prog 187 := deep_law_laid Tryz.laidOutC (m := 3) (by omega) (of_decide_eq_true (by kernel_rfl)) (by kernel_rfl) (by kernel_rfl)
theorem cells51 : Tryz.prog.cellsOf 187 = 2 := by kernel_rfl
theorem cells22 : Tryz.prog.cellsOf 44 = 1 := by kernel_rfl
theorem cells5 : Tryz.prog.cellsOf 5 = 1 := by kernel_rfl
theorem typesSize : ∃ n, Tryz.prog.types.size = n + 1 := ⟨Tryz.prog.types.size - 1, by have : 0 < Tryz.prog.types.size := of_decide_eq_true (by kernel_rfl); omega⟩
theorem keyOf_step (a b : Int) (ha : (Lit.int .u8 a).wf = true) (hb : (Lit.int .u8 b).wf = true) : ∃ l, keyOf Tryz.prog 187 (.agg #[.int .u8 a, .int .u8 b]) = some l := by
  have h1 : Tryz.prog.keyType 187 = true := by kernel_rfl
  have h2 : (Value.agg #[.int .u8 a, .int .u8 b]).formed Tryz.prog 187 = true := by simp [Value.formed, Tryz.underlying187, cells51]
  have h3 : Tryz.prog.keyLits (Tryz.prog.types.size + 1) 187 [.int .u8 a, .int .u8 b] = some [.int .u8 a, .int .u8 b] := by
    obtain ⟨n, hn⟩ := typesSize
    rw [hn, tkKeyStruct Tryz.underlying187 _ _ (by rw [cells51]; rfl) (by kernel_rfl)]
    simp [cells22, cells5, tkKeyInt Tryz.underlying44 n ha, tkKeyInt Tryz.underlying5 n hb]
  refine ⟨.string (keyBytes [.int .u8 a, .int .u8 b]), ?_⟩
  unfold keyOf
  rw [Tryz.underlying187]
  simp only [h1, h2, Bool.and_true, if_true, Value.cells, h3, Option.map_some]
def stepK : KeyKind Tryz.prog 187 (Int × Int) where
  kv := fun x => .agg #[.int .u8 x.1, .int .u8 x.2]
  ok := fun x => (Lit.int .u8 x.1).wf = true ∧ (Lit.int .u8 x.2).wf = true
  inj := fun {x y} h => by
    simp only [Value.agg.injEq, Array.mk.injEq, List.cons.injEq, Value.int.injEq, true_and, and_true] at h
    exact Prod.ext h.1 h.2
  keyed := Keyed.of_law step_law
  reads := fun {x} h => keyOf_step x.1 x.2 h.1 h.2
def waysL : List ((Int × Int) × Value) := [((1, 9), .int .u8 2), ((2, 10), .int .u8 1), ((2, 11), .int .u8 3), ((3, 12), .int .u8 4), ((1, 3), .int .u8 5), ((1, 4), .int .u8 6), ((1, 5), .int .u8 7)]
def entOf {α : Type} : List Bool → List α → List α
  | b :: f, x :: l => if b then x :: entOf f l else entOf f l
  | _, _ => []
theorem entOf_set {α : Type} : ∀ (f : List Bool) (l : List α) (j : Nat) (x : α), f[j]? = some false → l[j]? = some x → (entOf (f.set j true) l).Perm (x :: entOf f l)
  | [], _, j, _, h, _ => by simp at h
  | b :: f, [], j, _, _, h => by simp at h
  | b :: f, y :: l, 0, x, h, h' => by
    simp only [List.getElem?_cons_zero, Option.some.injEq] at h h'
    subst h; subst h'; simp [entOf]
  | b :: f, y :: l, j + 1, x, h, h' => by
    have := entOf_set f l j x (by simpa using h) (by simpa using h')
    cases b
    · simpa [entOf] using this
    · simp only [List.set_cons_succ, entOf, if_true]
      exact (this.cons y).trans (List.Perm.swap _ _ _)
theorem entOf_sub {α : Type} : ∀ (f : List Bool) (l : List α), (entOf f l).Sublist l
  | [], l => by cases l <;> simp [entOf]
  | _ :: _, [] => by simp [entOf]
  | b :: f, x :: l => by
    cases b
    · simp only [entOf, Bool.false_eq_true, if_false]; exact (entOf_sub f l).cons x
    · simp only [entOf, if_true]; exact (entOf_sub f l).cons_cons x
theorem entOf_not {f : List Bool} {l : List ((Int × Int) × Value)} {j : Nat} {x : (Int × Int) × Value} (hn : (l.map (·.1)).Nodup) (hf : f[j]? = some false) (hl : l[j]? = some x) : putL (entOf f l) x.1 x.2 = x :: entOf f l := by
  unfold putL
  congr 1
  rw [List.filter_eq_self]
  intro p hp
  have h1 : ((entOf (f.set j true) l).map (·.1)).Nodup := hn.sublist ((entOf_sub _ _).map _)
  have h2 := ((entOf_set f l j x hf hl).map (·.1)).nodup_iff.1 h1
  simp only [List.map_cons, List.nodup_cons] at h2
  have : p.1 ≠ x.1 := fun e => h2.1 (by rw [← e]; exact List.mem_map_of_mem (f := (·.1)) hp)
  simp [this]
def flagsOf (l : Array Bool) : List Bool := [l.getD 2 false, l.getD 4 false, l.getD 6 false, l.getD 8 false, l.getD 10 false, l.getD 12 false, l.getD 14 false]
theorem waysL_nodup : (waysL.map (·.1)).Nodup := by decide
def WaysInv (w0 : World) (B : Nat) (l : Array Bool) (a : Act) (w : World) : Prop :=
  ∃ s0 s1 s2 s3 s4 s5 s6 s7 s8 s9 : Value, a = { tmps := #[s0, s1, s2, s3, s4, s5, s6, s7, s8, s9], defers := [] } ∧ (l.getD 0 false = true → s1 = .map (some B)) ∧
  (l.getD 1 false = true → s2 = stepK.kv (1, 9)) ∧
  (l.getD 3 false = true → s3 = stepK.kv (2, 10)) ∧
  (l.getD 5 false = true → s4 = stepK.kv (2, 11)) ∧
  (l.getD 7 false = true → s5 = stepK.kv (3, 12)) ∧
  (l.getD 9 false = true → s6 = stepK.kv (1, 3)) ∧
  (l.getD 11 false = true → s7 = stepK.kv (1, 4)) ∧
  (l.getD 13 false = true → s8 = stepK.kv (1, 5)) ∧
  (l.getD 15 false = true → s9 = .map (some B)) ∧ (l.getD 16 false = true → s0 = .map (some B)) ∧ (l.getD 0 false = false → w = w0 ∧ flagsOf l = [false, false, false, false, false, false, false]) ∧
  (l.getD 0 false = true → MapAt stepK w B (entOf (flagsOf l) waysL)) ∧ Below w0.heap.size w0 w
set_option maxRecDepth 100000 in
set_option maxHeartbeats 4000000 in
theorem ways_any (w : World) : Calls Tryz.prog 127 #[] w fun e w' => ∃ b, e = .returned (.map (some b)) ∧ MapAt stepK w' b waysL ∧ Below w.heap.size w w' ∧ w.heap.size ≤ b := by
  go_enter Tryz.func127, Tryz.ntmps127
  go_wp2
  refine wp_region_any (by kernel_rfl) ?_
  refine wpAny_inv (WaysInv w.drew w.heap.size) ?_ ?_ _ _ _ _ (by simp) (by simp) ?_
  · intro l a w1 hs hI i hi
    obtain ⟨h1, h2⟩ := List.mem_filter.1 hi
    have hi17 : i < 17 := by simpa using h1
    have hl : l.size = 17 := hs
    obtain ⟨b0, b1, b2, b3, b4, b5, b6, b7, b8, b9, b10, b11, b12, b13, b14, b15, b16, rfl⟩ : ∃ b0 b1 b2 b3 b4 b5 b6 b7 b8 b9 b10 b11 b12 b13 b14 b15 b16 : Bool, l = #[b0, b1, b2, b3, b4, b5, b6, b7, b8, b9, b10, b11, b12, b13, b14, b15, b16] := by
      match l, hl with
      | ⟨[b0, b1, b2, b3, b4, b5, b6, b7, b8, b9, b10, b11, b12, b13, b14, b15, b16]⟩, _ => exact ⟨_, _, _, _, _, _, _, _, _, _, _, _, _, _, _, _, _, rfl⟩
    clear hi h1 hs hl
    obtain ⟨s0, s1, s2, s3, s4, s5, s6, s7, s8, s9, rfl, c0, c1, c2, c3, c4, c5, c6, c7, c8, c9, d0, d1, hb⟩ := hI
    simp only [flagsOf, Array.getD_eq_getD_getElem?, List.getElem?_toArray, List.getElem?_cons_succ, List.getElem?_cons_zero, Option.getD_some] at c0 c1 c2 c3 c4 c5 c6 c7 c8 c9 d0 d1
    have hc : i = 0 ∨ i = 1 ∨ i = 2 ∨ i = 3 ∨ i = 4 ∨ i = 5 ∨ i = 6 ∨ i = 7 ∨ i = 8 ∨ i = 9 ∨ i = 10 ∨ i = 11 ∨ i = 12 ∨ i = 13 ∨ i = 14 ∨ i = 15 ∨ i = 16 := by omega
    rcases hc with rfl | rfl | rfl | rfl | rfl | rfl | rfl | rfl | rfl | rfl | rfl | rfl | rfl | rfl | rfl | rfl | rfl
    · simp [Region.binds] at h2
      subst h2
      obtain ⟨rfl, hfl⟩ := d0 rfl
      unfold wpOp
      have hmm := @run_makeMap Tryz.prog
      go_simp
      left
      refine ⟨s0, _, s2, s3, s4, s5, s6, s7, s8, s9, rfl, fun _ => rfl, c1, c2, c3, c4, c5, c6, c7, c8, c9, fun h => by simp at h, fun _ => ?_, hb.alloc (Nat.le_refl _) _⟩
      have : flagsOf #[true, b1, b2, b3, b4, b5, b6, b7, b8, b9, b10, b11, b12, b13, b14, b15, b16] = [false, false, false, false, false, false, false] := hfl
      rw [this]
      exact MapAt.made stepK w.drew
    · simp [Region.binds] at h2
      subst h2
      unfold wpOp
      go_simp
      left
      exact ⟨s0, s1, _, s3, s4, s5, s6, s7, s8, s9, rfl, c0, fun _ => rfl, c2, c3, c4, c5, c6, c7, c8, c9, d0, d1, hb⟩
    · simp [Region.binds] at h2
      obtain ⟨h2, h3, h4⟩ := h2
      subst h2
      subst h3
      obtain rfl := c0 rfl
      obtain rfl := c1 h4
      subst h4
      obtain ⟨w', hrun, hm, hg⟩ := (d1 rfl).update Tryz.underlying183 (x := (1, 9)) ⟨by decide, by decide⟩ (.int .u8 2)
      rw [entOf_not (x := ((1, 9), .int .u8 2)) waysL_nodup (j := 0) rfl rfl] at hm
      have hm2 := hm.perm (entOf_set _ waysL 0 _ rfl rfl).symm
      clear hm d0
      unfold wpOp
      go_simp
      left
      exact ⟨_, _, _, _, _, _, _, _, _, _, rfl, c0, c1, c2, c3, c4, c5, c6, c7, c8, c9, fun h => by simp at h, fun _ => hm2, hb.grown hg hb.size (fun j hj => by cases hj; exact Nat.le_refl _)⟩
    · simp [Region.binds] at h2
      subst h2
      unfold wpOp
      go_simp
      left
      exact ⟨s0, s1, s2, _, s4, s5, s6, s7, s8, s9, rfl, c0, c1, fun _ => rfl, c3, c4, c5, c6, c7, c8, c9, d0, d1, hb⟩
    · simp [Region.binds] at h2
      obtain ⟨h2, h3, h4⟩ := h2
      subst h2
      subst h3
      obtain rfl := c0 rfl
      obtain rfl := c2 h4
      subst h4
      obtain ⟨w', hrun, hm, hg⟩ := (d1 rfl).update Tryz.underlying183 (x := (2, 10)) ⟨by decide, by decide⟩ (.int .u8 1)
      rw [entOf_not (x := ((2, 10), .int .u8 1)) waysL_nodup (j := 1) rfl rfl] at hm
      have hm2 := hm.perm (entOf_set _ waysL 1 _ rfl rfl).symm
      clear hm d0
      unfold wpOp
      go_simp
      left
      exact ⟨_, _, _, _, _, _, _, _, _, _, rfl, c0, c1, c2, c3, c4, c5, c6, c7, c8, c9, fun h => by simp at h, fun _ => hm2, hb.grown hg hb.size (fun j hj => by cases hj; exact Nat.le_refl _)⟩
    · simp [Region.binds] at h2
      subst h2
      unfold wpOp
      go_simp
      left
      exact ⟨s0, s1, s2, s3, _, s5, s6, s7, s8, s9, rfl, c0, c1, c2, fun _ => rfl, c4, c5, c6, c7, c8, c9, d0, d1, hb⟩
    · simp [Region.binds] at h2
      obtain ⟨h2, h3, h4⟩ := h2
      subst h2
      subst h3
      obtain rfl := c0 rfl
      obtain rfl := c3 h4
      subst h4
      obtain ⟨w', hrun, hm, hg⟩ := (d1 rfl).update Tryz.underlying183 (x := (2, 11)) ⟨by decide, by decide⟩ (.int .u8 3)
      rw [entOf_not (x := ((2, 11), .int .u8 3)) waysL_nodup (j := 2) rfl rfl] at hm
      have hm2 := hm.perm (entOf_set _ waysL 2 _ rfl rfl).symm
      clear hm d0
      unfold wpOp
      go_simp
      left
      exact ⟨_, _, _, _, _, _, _, _, _, _, rfl, c0, c1, c2, c3, c4, c5, c6, c7, c8, c9, fun h => by simp at h, fun _ => hm2, hb.grown hg hb.size (fun j hj => by cases hj; exact Nat.le_refl _)⟩
    · simp [Region.binds] at h2
      subst h2
      unfold wpOp
      go_simp
      left
      exact ⟨s0, s1, s2, s3, s4, _, s6, s7, s8, s9, rfl, c0, c1, c2, c3, fun _ => rfl, c5, c6, c7, c8, c9, d0, d1, hb⟩
    · simp [Region.binds] at h2
      obtain ⟨h2, h3, h4⟩ := h2
      subst h2
      subst h3
      obtain rfl := c0 rfl
      obtain rfl := c4 h4
      subst h4
      obtain ⟨w', hrun, hm, hg⟩ := (d1 rfl).update Tryz.underlying183 (x := (3, 12)) ⟨by decide, by decide⟩ (.int .u8 4)
      rw [entOf_not (x := ((3, 12), .int .u8 4)) waysL_nodup (j := 3) rfl rfl] at hm
      have hm2 := hm.perm (entOf_set _ waysL 3 _ rfl rfl).symm
      clear hm d0
      unfold wpOp
      go_simp
      left
      exact ⟨_, _, _, _, _, _, _, _, _, _, rfl, c0, c1, c2, c3, c4, c5, c6, c7, c8, c9, fun h => by simp at h, fun _ => hm2, hb.grown hg hb.size (fun j hj => by cases hj; exact Nat.le_refl _)⟩
    · simp [Region.binds] at h2
      subst h2
      unfold wpOp
      go_simp
      left
      exact ⟨s0, s1, s2, s3, s4, s5, _, s7, s8, s9, rfl, c0, c1, c2, c3, c4, fun _ => rfl, c6, c7, c8, c9, d0, d1, hb⟩
    · simp [Region.binds] at h2
      obtain ⟨h2, h3, h4⟩ := h2
      subst h2
      subst h3
      obtain rfl := c0 rfl
      obtain rfl := c5 h4
      subst h4
      obtain ⟨w', hrun, hm, hg⟩ := (d1 rfl).update Tryz.underlying183 (x := (1, 3)) ⟨by decide, by decide⟩ (.int .u8 5)
      rw [entOf_not (x := ((1, 3), .int .u8 5)) waysL_nodup (j := 4) rfl rfl] at hm
      have hm2 := hm.perm (entOf_set _ waysL 4 _ rfl rfl).symm
      clear hm d0
      unfold wpOp
      go_simp
      left
      exact ⟨_, _, _, _, _, _, _, _, _, _, rfl, c0, c1, c2, c3, c4, c5, c6, c7, c8, c9, fun h => by simp at h, fun _ => hm2, hb.grown hg hb.size (fun j hj => by cases hj; exact Nat.le_refl _)⟩
    · simp [Region.binds] at h2
      subst h2
      unfold wpOp
      go_simp
      left
      exact ⟨s0, s1, s2, s3, s4, s5, s6, _, s8, s9, rfl, c0, c1, c2, c3, c4, c5, fun _ => rfl, c7, c8, c9, d0, d1, hb⟩
    · simp [Region.binds] at h2
      obtain ⟨h2, h3, h4⟩ := h2
      subst h2
      subst h3
      obtain rfl := c0 rfl
      obtain rfl := c6 h4
      subst h4
      obtain ⟨w', hrun, hm, hg⟩ := (d1 rfl).update Tryz.underlying183 (x := (1, 4)) ⟨by decide, by decide⟩ (.int .u8 6)
      rw [entOf_not (x := ((1, 4), .int .u8 6)) waysL_nodup (j := 5) rfl rfl] at hm
      have hm2 := hm.perm (entOf_set _ waysL 5 _ rfl rfl).symm
      clear hm d0
      unfold wpOp
      go_simp
      left
      exact ⟨_, _, _, _, _, _, _, _, _, _, rfl, c0, c1, c2, c3, c4, c5, c6, c7, c8, c9, fun h => by simp at h, fun _ => hm2, hb.grown hg hb.size (fun j hj => by cases hj; exact Nat.le_refl _)⟩
    · simp [Region.binds] at h2
      subst h2
      unfold wpOp
      go_simp
      left
      exact ⟨s0, s1, s2, s3, s4, s5, s6, s7, _, s9, rfl, c0, c1, c2, c3, c4, c5, c6, fun _ => rfl, c8, c9, d0, d1, hb⟩
    · simp [Region.binds] at h2
      obtain ⟨h2, h3, h4⟩ := h2
      subst h2
      subst h3
      obtain rfl := c0 rfl
      obtain rfl := c7 h4
      subst h4
      obtain ⟨w', hrun, hm, hg⟩ := (d1 rfl).update Tryz.underlying183 (x := (1, 5)) ⟨by decide, by decide⟩ (.int .u8 7)
      rw [entOf_not (x := ((1, 5), .int .u8 7)) waysL_nodup (j := 6) rfl rfl] at hm
      have hm2 := hm.perm (entOf_set _ waysL 6 _ rfl rfl).symm
      clear hm d0
      unfold wpOp
      go_simp
      left
      exact ⟨_, _, _, _, _, _, _, _, _, _, rfl, c0, c1, c2, c3, c4, c5, c6, c7, c8, c9, fun h => by simp at h, fun _ => hm2, hb.grown hg hb.size (fun j hj => by cases hj; exact Nat.le_refl _)⟩
    · simp [Region.binds] at h2
      have h3 : b0 = true := by simp_all
      have h4 := h2.1
      subst h4
      subst h3
      obtain rfl := c0 rfl
      clear h2
      unfold wpOp
      go_simp
      left
      exact ⟨_, _, _, _, _, _, _, _, _, _, rfl, c0, c1, c2, c3, c4, c5, c6, c7, fun _ => rfl, c9, d0, d1, hb⟩
    · simp [Region.binds] at h2
      have h3 : b15 = true := by simp_all
      have h4 := h2.1
      subst h4
      subst h3
      obtain rfl := c8 rfl
      clear h2
      unfold wpOp
      go_simp
      left
      exact ⟨_, _, _, _, _, _, _, _, _, _, rfl, c0, c1, c2, c3, c4, c5, c6, c7, c8, fun _ => rfl, d0, d1, hb⟩
  · intro l a w1 hs hI hr
    have hl : l.size = 17 := hs
    obtain ⟨b0, b1, b2, b3, b4, b5, b6, b7, b8, b9, b10, b11, b12, b13, b14, b15, b16, rfl⟩ : ∃ b0 b1 b2 b3 b4 b5 b6 b7 b8 b9 b10 b11 b12 b13 b14 b15 b16 : Bool, l = #[b0, b1, b2, b3, b4, b5, b6, b7, b8, b9, b10, b11, b12, b13, b14, b15, b16] := by
      match l, hl with
      | ⟨[b0, b1, b2, b3, b4, b5, b6, b7, b8, b9, b10, b11, b12, b13, b14, b15, b16]⟩, _ => exact ⟨_, _, _, _, _, _, _, _, _, _, _, _, _, _, _, _, _, rfl⟩
    have hh := List.filter_eq_nil_iff.1 hr
    have e0 := hh 0 (by simp)
    simp [Region.binds] at e0
    subst e0
    have e1 := hh 1 (by simp)
    simp [Region.binds] at e1
    subst e1
    have e3 := hh 3 (by simp)
    simp [Region.binds] at e3
    subst e3
    have e5 := hh 5 (by simp)
    simp [Region.binds] at e5
    subst e5
    have e7 := hh 7 (by simp)
    simp [Region.binds] at e7
    subst e7
    have e9 := hh 9 (by simp)
    simp [Region.binds] at e9
    subst e9
    have e11 := hh 11 (by simp)
    simp [Region.binds] at e11
    subst e11
    have e13 := hh 13 (by simp)
    simp [Region.binds] at e13
    subst e13
    have e2 := hh 2 (by simp)
    simp [Region.binds] at e2
    subst e2
    have e4 := hh 4 (by simp)
    simp [Region.binds] at e4
    subst e4
    have e6 := hh 6 (by simp)
    simp [Region.binds] at e6
    subst e6
    have e8 := hh 8 (by simp)
    simp [Region.binds] at e8
    subst e8
    have e10 := hh 10 (by simp)
    simp [Region.binds] at e10
    subst e10
    have e12 := hh 12 (by simp)
    simp [Region.binds] at e12
    subst e12
    have e14 := hh 14 (by simp)
    simp [Region.binds] at e14
    subst e14
    have e15 := hh 15 (by simp)
    simp [Region.binds] at e15
    subst e15
    have e16 := hh 16 (by simp)
    simp [Region.binds] at e16
    subst e16
    obtain ⟨s0, s1, s2, s3, s4, s5, s6, s7, s8, s9, rfl, c0, c1, c2, c3, c4, c5, c6, c7, c8, c9, d0, d1, hb⟩ := hI
    obtain rfl := c9 rfl
    have hm := d1 rfl
    clear c0 c1 c2 c3 c4 c5 c6 c7 c8 c9 d0 d1 hh hr hs hl
    go_wp2
    go_ret
    exact ⟨_, rfl, hm, ((Below.refl w.heap.size w).drew).trans hb, Nat.le_refl _⟩
  · refine ⟨_, _, _, _, _, _, _, _, _, _, rfl, fun h => by simp at h, fun h => by simp at h, fun h => by simp at h, fun h => by simp at h, fun h => by simp at h, fun h => by simp at h, fun h => by simp at h, fun h => by simp at h, fun h => by simp at h, fun h => by simp at h, fun _ => ⟨rfl, rfl⟩, fun h => by simp at h, Below.refl _ _⟩
end Go.Proofs.YtdnaegleifhmgaaGreat
