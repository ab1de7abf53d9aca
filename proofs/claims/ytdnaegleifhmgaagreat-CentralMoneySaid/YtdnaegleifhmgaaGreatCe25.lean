/- CENTRAL 25: the comparison of places, walked. -/
import Derived.Test.YtdnaegleifhmgaaGreatMc9ee414
import Derived.Test.YtdnaegleifhmgaaGreatM917a858
import Derived.Test.YtdnaegleifhmgaaGreatM6661197
import Derived.Deep.Cut
namespace Go.Proofs.YtdnaegleifhmgaaGreat
set_option maxRecDepth 100000
open Go.RowKit Go.Lib Go.Tk Go.Shelf Go.Maps Go.Sort
set_option linter.unusedVariables false
set_option linter.unusedSimpArgs false
def Places1F : Nat := 26
set_option maxHeartbeats 8000000 in
theorem places1_any (p q : PlaceV) (w : World) : Calls Tryz.prog 26 #[.agg (placeL p).toArray, .agg (placeL q).toArray] w fun e w' => e = .returned (.int .i64 (cfK p.key q.key)) ∧ ∃ n os, w' = grow (w.drewN n) os := by
  obtain ⟨⟨⟨xc, xr⟩, xi⟩, x1, x2, x3, x4, x5⟩ := p
  obtain ⟨⟨⟨yc, yr⟩, yi⟩, y1, y2, y3, y4, y5⟩ := q
  simp only [placeL, cfK]
  have hmx : Tryz.prog.follows .mixedOrders = true := by kernel_rfl
  go_enter Tryz.func26, Tryz.ntmps26
  go_upto_region 1 with fail
  go_region
  all_goals (try go_upto_region 2 with fail)
  · obtain ⟨W1, hW1⟩ : ∃ W1, W1 = (((((w.alloc (.cells #[.int .u8 xc, .int .u64 xr, .int .u8 xi, .bool x1, .int .u8 x2, .int .u8 x3, .int .u32 x4, .bool x5] 61)).alloc (.cells #[.int .u8 yc, .int .u64 yr, .int .u8 yi, .bool y1, .int .u8 y2, .int .u8 y3, .int .u32 y4, .bool y5] 61)).alloc (.cells #[.int .u8 xc, .int .u64 xr, .int .u8 xi] 39)).alloc (.cells #[.int .u8 yc, .int .u64 yr, .int .u8 yi] 39)).drew).drew := ⟨_, rfl⟩
    obtain ⟨W2, hW2⟩ : ∃ W2, W2 = W1.alloc (.cells #[.int .i64 (cmpI xc yc), .int .i64 (cmpI xr yr), .int .i64 (cmpI xi yi)] 3) := ⟨_, rfl⟩
    have b1 : Box W1 (w.heap.size + 1 + 1) #[.int .u8 xc, .int .u64 xr, .int .u8 xi] := by
      rw [hW1]
      have h0 : Box (((w.alloc (.cells #[.int .u8 xc, .int .u64 xr, .int .u8 xi, .bool x1, .int .u8 x2, .int .u8 x3, .int .u32 x4, .bool x5] 61)).alloc (.cells #[.int .u8 yc, .int .u64 yr, .int .u8 yi, .bool y1, .int .u8 y2, .int .u8 y3, .int .u32 y4, .bool y5] 61)).alloc (.cells #[.int .u8 xc, .int .u64 xr, .int .u8 xi] 39)) ((w.alloc (.cells #[.int .u8 xc, .int .u64 xr, .int .u8 xi, .bool x1, .int .u8 x2, .int .u8 x3, .int .u32 x4, .bool x5] 61)).alloc (.cells #[.int .u8 yc, .int .u64 yr, .int .u8 yi, .bool y1, .int .u8 y2, .int .u8 y3, .int .u32 y4, .bool y5] 61)).heap.size #[.int .u8 xc, .int .u64 xr, .int .u8 xi] := Box.new rfl
      rw [World.size_alloc, World.size_alloc] at h0
      exact ((h0.kept (below_alloc _ _)).kept (Below.refl _ _).drew).kept (Below.refl _ _).drew
    have b2 : Box W1 (w.heap.size + 1 + 1 + 1) #[.int .u8 yc, .int .u64 yr, .int .u8 yi] := by
      rw [hW1]
      have h0 : Box ((((w.alloc (.cells #[.int .u8 xc, .int .u64 xr, .int .u8 xi, .bool x1, .int .u8 x2, .int .u8 x3, .int .u32 x4, .bool x5] 61)).alloc (.cells #[.int .u8 yc, .int .u64 yr, .int .u8 yi, .bool y1, .int .u8 y2, .int .u8 y3, .int .u32 y4, .bool y5] 61)).alloc (.cells #[.int .u8 xc, .int .u64 xr, .int .u8 xi] 39)).alloc (.cells #[.int .u8 yc, .int .u64 yr, .int .u8 yi] 39)) (((w.alloc (.cells #[.int .u8 xc, .int .u64 xr, .int .u8 xi, .bool x1, .int .u8 x2, .int .u8 x3, .int .u32 x4, .bool x5] 61)).alloc (.cells #[.int .u8 yc, .int .u64 yr, .int .u8 yi, .bool y1, .int .u8 y2, .int .u8 y3, .int .u32 y4, .bool y5] 61)).alloc (.cells #[.int .u8 xc, .int .u64 xr, .int .u8 xi] 39)).heap.size #[.int .u8 yc, .int .u64 yr, .int .u8 yi] := Box.new rfl
      rw [World.size_alloc, World.size_alloc, World.size_alloc] at h0
      exact (h0.kept (Below.refl _ _).drew).kept (Below.refl _ _).drew
    have k13 : W1.cell? ⟨(w.heap.size + 1 + 1), 0, none⟩ = some (.int .u8 xc) := b1.cell 0 rfl
    have k20 : W1.cell? ⟨(w.heap.size + 1 + 1), 1, none⟩ = some (.int .u64 xr) := b1.cell 1 rfl
    have k26 : W1.cell? ⟨(w.heap.size + 1 + 1), 2, none⟩ = some (.int .u8 xi) := b1.cell 2 rfl
    have k16 : W1.cell? ⟨(w.heap.size + 1 + 1 + 1), 0, none⟩ = some (.int .u8 yc) := b2.cell 0 rfl
    have k23 : W1.cell? ⟨(w.heap.size + 1 + 1 + 1), 1, none⟩ = some (.int .u64 yr) := b2.cell 1 rfl
    have k28 : W1.cell? ⟨(w.heap.size + 1 + 1 + 1), 2, none⟩ = some (.int .u8 yi) := b2.cell 2 rfl
    have x3 : Box W2 W1.heap.size #[.int .i64 (cmpI xc yc), .int .i64 (cmpI xr yr), .int .i64 (cmpI xi yi)] := by rw [hW2]; exact Box.new rfl
    have q0 : W2.cell? ⟨W1.heap.size, 0, none⟩ = some (.int .i64 (cmpI xc yc)) := x3.cell 0 rfl
    have q1 : W2.cell? ⟨W1.heap.size, 1, none⟩ = some (.int .i64 (cmpI xr yr)) := x3.cell 1 rfl
    have q2 : W2.cell? ⟨W1.heap.size, 2, none⟩ = some (.int .i64 (cmpI xi yi)) := x3.cell 2 rfl
    have HW1 := hid hW1
    have HW2 := hid hW2
    clear hW1 hW2 b1 b2 x3
    refine wp_region_vals (fun zz => (#[.pointer (some ⟨(w.heap.size + 1 + 1), 0, none⟩), .pointer (some ⟨(w.heap.size + 1 + 1), 0, none⟩), .int .u8 xc, .pointer (some ⟨(w.heap.size + 1 + 1 + 1), 0, none⟩), .pointer (some ⟨(w.heap.size + 1 + 1 + 1), 0, none⟩), .int .u8 yc, .int .i64 (cmpI xc yc), .pointer (some ⟨(w.heap.size + 1 + 1), 0, none⟩), .pointer (some ⟨(w.heap.size + 1 + 1), 1, none⟩), .int .u64 xr, .pointer (some ⟨(w.heap.size + 1 + 1 + 1), 0, none⟩), .pointer (some ⟨(w.heap.size + 1 + 1 + 1), 1, none⟩), .int .u64 yr, .int .i64 (cmpI xr yr), .pointer (some ⟨(w.heap.size + 1 + 1), 2, none⟩), .int .u8 xi, .pointer (some ⟨(w.heap.size + 1 + 1 + 1), 2, none⟩), .int .u8 yi, .int .i64 (cmpI xi yi), .slice (some ⟨W1.heap.size, 0, none⟩) 3 3, .int .i64 (orI (cmpI xc yc) (cmpI xr yr) (cmpI xi yi)), .int .i64 (orI (cmpI xc yc) (cmpI xr yr) (cmpI xi yi))] : Array Value).getD zz undef) (fun k wx => wx = (match k with | 0 => W1 | _ => W2)) [19] [[], [0], [0, 1], [], [3], [3, 4], [0, 1, 2, 3, 4, 5], [], [7], [7, 8], [], [10], [10, 11], [7, 8, 9, 10, 11, 12], [], [14], [], [16], [14, 15, 16, 17], [0, 1, 2, 3, 4, 5, 6, 7, 8, 9, 10, 11, 12, 13, 14, 15, 16, 17, 18], [0, 1, 2, 3, 4, 5, 6, 7, 8, 9, 10, 11, 12, 13, 14, 15, 16, 17, 18, 19], [0, 1, 2, 3, 4, 5, 6, 7, 8, 9, 10, 11, 12, 13, 14, 15, 16, 17, 18, 19, 20]] [0, 0, 0, 0, 0, 0, 0, 0, 0, 0, 0, 0, 0, 0, 0, 0, 0, 0, 0, 0, 1, 1] [0, 0, 0, 0, 0, 0, 0, 0, 0, 0, 0, 0, 0, 0, 0, 0, 0, 0, 0, 0, 1, 1] hmx (by kernel_rfl) (by kernel_rfl) (by kernel_rfl) HW1.out.symm ?_ ?_
    · intro ρ hc hg hf hd ho
      refine ⟨?_, ?_, ?_, ?_, ?_, ?_, ?_, ?_, ?_, ?_, ?_, ?_, ?_, ?_, ?_, ?_, ?_, ?_, ?_, ?_, ?_, ?_, trivial⟩
      · intro zk wx hl hh _ hO -- 0: fieldAddr 39 t5 0
        have e5 : ρ (.tmp 5) = .pointer (some ⟨(w.heap.size + 1 + 1), 0, none⟩) := ho 5 (by rfl)
        obtain rfl : zk = 0 := by simp at hl hh; omega
        refine (if_pos (by rfl)).mpr ?_
        simp [go_sem, execOp, resolve, invoke, builtin, opRes_value, opRes_skip, opRes_enter, hc, hg, hf, hO, e5]
      · intro zk wx hl hh _ hO -- 1: fieldAddr 31 t11 0
        have e11 : ρ (.tmp 11) = .pointer (some ⟨(w.heap.size + 1 + 1), 0, none⟩) := hd 0 _ 11 rfl rfl
        obtain rfl : zk = 0 := by simp at hl hh; omega
        refine (if_pos (by rfl)).mpr ?_
        simp [go_sem, execOp, resolve, invoke, builtin, opRes_value, opRes_skip, opRes_enter, hc, hg, hf, hO, e11]
      · intro zk wx hl hh _ hO -- 2: load 5 t12
        have e12 : ρ (.tmp 12) = .pointer (some ⟨(w.heap.size + 1 + 1), 0, none⟩) := hd 1 _ 12 rfl rfl
        obtain rfl : zk = 0 := by simp at hl hh; omega
        refine (if_pos (by rfl)).mpr ?_
        have f0 := k13
        obtain rfl : wx = W1 := hO
        have hO := True.intro
        simp [go_sem, execOp, resolve, invoke, builtin, opRes_value, opRes_skip, opRes_enter, hc, hg, hf, hO, e12, f0]
      · intro zk wx hl hh _ hO -- 3: fieldAddr 39 t6 0
        have e6 : ρ (.tmp 6) = .pointer (some ⟨(w.heap.size + 1 + 1 + 1), 0, none⟩) := ho 6 (by rfl)
        obtain rfl : zk = 0 := by simp at hl hh; omega
        refine (if_pos (by rfl)).mpr ?_
        simp [go_sem, execOp, resolve, invoke, builtin, opRes_value, opRes_skip, opRes_enter, hc, hg, hf, hO, e6]
      · intro zk wx hl hh _ hO -- 4: fieldAddr 31 t14 0
        have e14 : ρ (.tmp 14) = .pointer (some ⟨(w.heap.size + 1 + 1 + 1), 0, none⟩) := hd 3 _ 14 rfl rfl
        obtain rfl : zk = 0 := by simp at hl hh; omega
        refine (if_pos (by rfl)).mpr ?_
        simp [go_sem, execOp, resolve, invoke, builtin, opRes_value, opRes_skip, opRes_enter, hc, hg, hf, hO, e14]
      · intro zk wx hl hh _ hO -- 5: load 5 t15
        have e15 : ρ (.tmp 15) = .pointer (some ⟨(w.heap.size + 1 + 1 + 1), 0, none⟩) := hd 4 _ 15 rfl rfl
        obtain rfl : zk = 0 := by simp at hl hh; omega
        refine (if_pos (by rfl)).mpr ?_
        have f0 := k16
        obtain rfl : wx = W1 := hO
        have hO := True.intro
        simp [go_sem, execOp, resolve, invoke, builtin, opRes_value, opRes_skip, opRes_enter, hc, hg, hf, hO, e15, f0]
      · intro zk wx hl hh _ hO -- 6: call { value (Operand.func 28), args := #[t13, t16], argTypes := #[5, 5] }
        have e13 : ρ (.tmp 13) = .int .u8 xc := hd 2 _ 13 rfl rfl
        have e16 : ρ (.tmp 16) = .int .u8 yc := hd 5 _ 16 rfl rfl
        obtain rfl : zk = 0 := by simp at hl hh; omega
        refine (if_pos (by rfl)).mpr ?_
        obtain rfl : wx = W1 := hO
        have hO := True.intro
        simp [go_sem, execOp, resolve, invoke, builtin, opRes_value, opRes_skip, opRes_enter, hc, hg, hf, hO, e13, e16]
        exact (compareB_any _ _ _).mono fun e wy h => ⟨h.1, h.2.symm⟩
      · intro zk wx hl hh _ hO -- 7: fieldAddr 39 t5 0
        have e5 : ρ (.tmp 5) = .pointer (some ⟨(w.heap.size + 1 + 1), 0, none⟩) := ho 5 (by rfl)
        obtain rfl : zk = 0 := by simp at hl hh; omega
        refine (if_pos (by rfl)).mpr ?_
        simp [go_sem, execOp, resolve, invoke, builtin, opRes_value, opRes_skip, opRes_enter, hc, hg, hf, hO, e5]
      · intro zk wx hl hh _ hO -- 8: fieldAddr 31 t18 1
        have e18 : ρ (.tmp 18) = .pointer (some ⟨(w.heap.size + 1 + 1), 0, none⟩) := hd 7 _ 18 rfl rfl
        obtain rfl : zk = 0 := by simp at hl hh; omega
        refine (if_pos (by rfl)).mpr ?_
        simp [go_sem, execOp, resolve, invoke, builtin, opRes_value, opRes_skip, opRes_enter, hc, hg, hf, hO, e18]
      · intro zk wx hl hh _ hO -- 9: load 29 t19
        have e19 : ρ (.tmp 19) = .pointer (some ⟨(w.heap.size + 1 + 1), 1, none⟩) := hd 8 _ 19 rfl rfl
        obtain rfl : zk = 0 := by simp at hl hh; omega
        refine (if_pos (by rfl)).mpr ?_
        have f0 := k20
        obtain rfl : wx = W1 := hO
        have hO := True.intro
        simp [go_sem, execOp, resolve, invoke, builtin, opRes_value, opRes_skip, opRes_enter, hc, hg, hf, hO, e19, f0]
      · intro zk wx hl hh _ hO -- 10: fieldAddr 39 t6 0
        have e6 : ρ (.tmp 6) = .pointer (some ⟨(w.heap.size + 1 + 1 + 1), 0, none⟩) := ho 6 (by rfl)
        obtain rfl : zk = 0 := by simp at hl hh; omega
        refine (if_pos (by rfl)).mpr ?_
        simp [go_sem, execOp, resolve, invoke, builtin, opRes_value, opRes_skip, opRes_enter, hc, hg, hf, hO, e6]
      · intro zk wx hl hh _ hO -- 11: fieldAddr 31 t21 1
        have e21 : ρ (.tmp 21) = .pointer (some ⟨(w.heap.size + 1 + 1 + 1), 0, none⟩) := hd 10 _ 21 rfl rfl
        obtain rfl : zk = 0 := by simp at hl hh; omega
        refine (if_pos (by rfl)).mpr ?_
        simp [go_sem, execOp, resolve, invoke, builtin, opRes_value, opRes_skip, opRes_enter, hc, hg, hf, hO, e21]
      · intro zk wx hl hh _ hO -- 12: load 29 t22
        have e22 : ρ (.tmp 22) = .pointer (some ⟨(w.heap.size + 1 + 1 + 1), 1, none⟩) := hd 11 _ 22 rfl rfl
        obtain rfl : zk = 0 := by simp at hl hh; omega
        refine (if_pos (by rfl)).mpr ?_
        have f0 := k23
        obtain rfl : wx = W1 := hO
        have hO := True.intro
        simp [go_sem, execOp, resolve, invoke, builtin, opRes_value, opRes_skip, opRes_enter, hc, hg, hf, hO, e22, f0]
      · intro zk wx hl hh _ hO -- 13: call { value (Operand.func 29), args := #[t20, t23], argTypes := #[29, 29] }
        have e20 : ρ (.tmp 20) = .int .u64 xr := hd 9 _ 20 rfl rfl
        have e23 : ρ (.tmp 23) = .int .u64 yr := hd 12 _ 23 rfl rfl
        obtain rfl : zk = 0 := by simp at hl hh; omega
        refine (if_pos (by rfl)).mpr ?_
        obtain rfl : wx = W1 := hO
        have hO := True.intro
        simp [go_sem, execOp, resolve, invoke, builtin, opRes_value, opRes_skip, opRes_enter, hc, hg, hf, hO, e20, e23]
        exact (compareU_any _ _ _).mono fun e wy h => ⟨h.1, h.2.symm⟩
      · intro zk wx hl hh _ hO -- 14: fieldAddr 39 t5 1
        have e5 : ρ (.tmp 5) = .pointer (some ⟨(w.heap.size + 1 + 1), 0, none⟩) := ho 5 (by rfl)
        obtain rfl : zk = 0 := by simp at hl hh; omega
        refine (if_pos (by rfl)).mpr ?_
        simp [go_sem, execOp, resolve, invoke, builtin, opRes_value, opRes_skip, opRes_enter, hc, hg, hf, hO, e5]
      · intro zk wx hl hh _ hO -- 15: load 5 t25
        have e25 : ρ (.tmp 25) = .pointer (some ⟨(w.heap.size + 1 + 1), 2, none⟩) := hd 14 _ 25 rfl rfl
        obtain rfl : zk = 0 := by simp at hl hh; omega
        refine (if_pos (by rfl)).mpr ?_
        have f0 := k26
        obtain rfl : wx = W1 := hO
        have hO := True.intro
        simp [go_sem, execOp, resolve, invoke, builtin, opRes_value, opRes_skip, opRes_enter, hc, hg, hf, hO, e25, f0]
      · intro zk wx hl hh _ hO -- 16: fieldAddr 39 t6 1
        have e6 : ρ (.tmp 6) = .pointer (some ⟨(w.heap.size + 1 + 1 + 1), 0, none⟩) := ho 6 (by rfl)
        obtain rfl : zk = 0 := by simp at hl hh; omega
        refine (if_pos (by rfl)).mpr ?_
        simp [go_sem, execOp, resolve, invoke, builtin, opRes_value, opRes_skip, opRes_enter, hc, hg, hf, hO, e6]
      · intro zk wx hl hh _ hO -- 17: load 5 t27
        have e27 : ρ (.tmp 27) = .pointer (some ⟨(w.heap.size + 1 + 1 + 1), 2, none⟩) := hd 16 _ 27 rfl rfl
        obtain rfl : zk = 0 := by simp at hl hh; omega
        refine (if_pos (by rfl)).mpr ?_
        have f0 := k28
        obtain rfl : wx = W1 := hO
        have hO := True.intro
        simp [go_sem, execOp, resolve, invoke, builtin, opRes_value, opRes_skip, opRes_enter, hc, hg, hf, hO, e27, f0]
      · intro zk wx hl hh _ hO -- 18: call { value (Operand.func 28), args := #[t26, t28], argTypes := #[5, 5] }
        have e26 : ρ (.tmp 26) = .int .u8 xi := hd 15 _ 26 rfl rfl
        have e28 : ρ (.tmp 28) = .int .u8 yi := hd 17 _ 28 rfl rfl
        obtain rfl : zk = 0 := by simp at hl hh; omega
        refine (if_pos (by rfl)).mpr ?_
        obtain rfl : wx = W1 := hO
        have hO := True.intro
        simp [go_sem, execOp, resolve, invoke, builtin, opRes_value, opRes_skip, opRes_enter, hc, hg, hf, hO, e26, e28]
        exact (compareB_any _ _ _).mono fun e wy h => ⟨h.1, h.2.symm⟩
      · intro zk wx hl hh _ hO -- 19: buildSlice 117 3 #[(0, t17), (1, t24), (2, t29)]
        have e17 : ρ (.tmp 17) = .int .i64 (cmpI xc yc) := hd 6 _ 17 rfl rfl
        have e24 : ρ (.tmp 24) = .int .i64 (cmpI xr yr) := hd 13 _ 24 rfl rfl
        have e29 : ρ (.tmp 29) = .int .i64 (cmpI xi yi) := hd 18 _ 29 rfl rfl
        obtain rfl : zk = 0 := by simp at hl hh; omega
        refine (if_pos (by rfl)).mpr ?_
        obtain rfl : wx = W1 := hO
        have hO := True.intro
        simp [go_sem, execOp, resolve, invoke, builtin, opRes_value, opRes_skip, opRes_enter, hc, hg, hf, hO, e17, e24, e29]
        exact HW2.out.symm
      · intro zk wx hl hh _ hO -- 20: call { value (Operand.func 27), args := #[t30], argTypes := #[117] }
        have e30 : ρ (.tmp 30) = .slice (some ⟨W1.heap.size, 0, none⟩) 3 3 := hd 19 _ 30 rfl rfl
        obtain rfl : zk = 1 := by simp at hl hh; omega
        refine (if_pos (by rfl)).mpr ?_
        obtain rfl : wx = W2 := hO
        have hO := True.intro
        simp [go_sem, execOp, resolve, invoke, builtin, opRes_value, opRes_skip, opRes_enter, hc, hg, hf, hO, e30]
        exact (or_any _ _ _ _ _ q0 q1 q2).mono fun e wy h => ⟨h.1, h.2.symm⟩
      · intro zk wx hl hh _ hO -- 21: assign t31
        have e31 : ρ (.tmp 31) = .int .i64 (orI (cmpI xc yc) (cmpI xr yr) (cmpI xi yi)) := hd 20 _ 31 rfl rfl
        obtain rfl : zk = 1 := by simp at hl hh; omega
        refine (if_pos (by rfl)).mpr ?_
        simp [go_sem, execOp, resolve, invoke, builtin, opRes_value, opRes_skip, opRes_enter, hc, hg, hf, hO, e31]
    · intro wx hO
      simp only [ssaAct, Act.put, List.setIfInBounds_toArray, List.set_cons_zero, List.set_cons_succ, Nat.zero_add, Nat.reduceAdd]
      obtain rfl : wx = W2 := hO
      go_wp2
      go_ret
      refine ⟨rfl, 2, #[.cells #[.int .u8 xc, .int .u64 xr, .int .u8 xi, .bool x1, .int .u8 x2, .int .u8 x3, .int .u32 x4, .bool x5] 61, .cells #[.int .u8 yc, .int .u64 yr, .int .u8 yi, .bool y1, .int .u8 y2, .int .u8 y3, .int .u32 y4, .bool y5] 61, .cells #[.int .u8 xc, .int .u64 xr, .int .u8 xi] 39, .cells #[.int .u8 yc, .int .u64 yr, .int .u8 yi] 39, .cells #[.int .i64 (cmpI xc yc), .int .i64 (cmpI xr yr), .int .i64 (cmpI xi yi)] 3], ?_⟩
      rw [HW2.out, HW1.out]
      rfl
  · obtain ⟨W1, hW1⟩ : ∃ W1, W1 = (((((w.alloc (.cells #[.int .u8 xc, .int .u64 xr, .int .u8 xi, .bool x1, .int .u8 x2, .int .u8 x3, .int .u32 x4, .bool x5] 61)).alloc (.cells #[.int .u8 yc, .int .u64 yr, .int .u8 yi, .bool y1, .int .u8 y2, .int .u8 y3, .int .u32 y4, .bool y5] 61)).alloc (.cells #[.int .u8 yc, .int .u64 yr, .int .u8 yi] 39)).alloc (.cells #[.int .u8 xc, .int .u64 xr, .int .u8 xi] 39)).drew).drew := ⟨_, rfl⟩
    obtain ⟨W2, hW2⟩ : ∃ W2, W2 = W1.alloc (.cells #[.int .i64 (cmpI xc yc), .int .i64 (cmpI xr yr), .int .i64 (cmpI xi yi)] 3) := ⟨_, rfl⟩
    have b1 : Box W1 (w.heap.size + 1 + 1) #[.int .u8 yc, .int .u64 yr, .int .u8 yi] := by
      rw [hW1]
      have h0 : Box (((w.alloc (.cells #[.int .u8 xc, .int .u64 xr, .int .u8 xi, .bool x1, .int .u8 x2, .int .u8 x3, .int .u32 x4, .bool x5] 61)).alloc (.cells #[.int .u8 yc, .int .u64 yr, .int .u8 yi, .bool y1, .int .u8 y2, .int .u8 y3, .int .u32 y4, .bool y5] 61)).alloc (.cells #[.int .u8 yc, .int .u64 yr, .int .u8 yi] 39)) ((w.alloc (.cells #[.int .u8 xc, .int .u64 xr, .int .u8 xi, .bool x1, .int .u8 x2, .int .u8 x3, .int .u32 x4, .bool x5] 61)).alloc (.cells #[.int .u8 yc, .int .u64 yr, .int .u8 yi, .bool y1, .int .u8 y2, .int .u8 y3, .int .u32 y4, .bool y5] 61)).heap.size #[.int .u8 yc, .int .u64 yr, .int .u8 yi] := Box.new rfl
      rw [World.size_alloc, World.size_alloc] at h0
      exact ((h0.kept (below_alloc _ _)).kept (Below.refl _ _).drew).kept (Below.refl _ _).drew
    have b2 : Box W1 (w.heap.size + 1 + 1 + 1) #[.int .u8 xc, .int .u64 xr, .int .u8 xi] := by
      rw [hW1]
      have h0 : Box ((((w.alloc (.cells #[.int .u8 xc, .int .u64 xr, .int .u8 xi, .bool x1, .int .u8 x2, .int .u8 x3, .int .u32 x4, .bool x5] 61)).alloc (.cells #[.int .u8 yc, .int .u64 yr, .int .u8 yi, .bool y1, .int .u8 y2, .int .u8 y3, .int .u32 y4, .bool y5] 61)).alloc (.cells #[.int .u8 yc, .int .u64 yr, .int .u8 yi] 39)).alloc (.cells #[.int .u8 xc, .int .u64 xr, .int .u8 xi] 39)) (((w.alloc (.cells #[.int .u8 xc, .int .u64 xr, .int .u8 xi, .bool x1, .int .u8 x2, .int .u8 x3, .int .u32 x4, .bool x5] 61)).alloc (.cells #[.int .u8 yc, .int .u64 yr, .int .u8 yi, .bool y1, .int .u8 y2, .int .u8 y3, .int .u32 y4, .bool y5] 61)).alloc (.cells #[.int .u8 yc, .int .u64 yr, .int .u8 yi] 39)).heap.size #[.int .u8 xc, .int .u64 xr, .int .u8 xi] := Box.new rfl
      rw [World.size_alloc, World.size_alloc, World.size_alloc] at h0
      exact (h0.kept (Below.refl _ _).drew).kept (Below.refl _ _).drew
    have k13 : W1.cell? ⟨(w.heap.size + 1 + 1 + 1), 0, none⟩ = some (.int .u8 xc) := b2.cell 0 rfl
    have k20 : W1.cell? ⟨(w.heap.size + 1 + 1 + 1), 1, none⟩ = some (.int .u64 xr) := b2.cell 1 rfl
    have k26 : W1.cell? ⟨(w.heap.size + 1 + 1 + 1), 2, none⟩ = some (.int .u8 xi) := b2.cell 2 rfl
    have k16 : W1.cell? ⟨(w.heap.size + 1 + 1), 0, none⟩ = some (.int .u8 yc) := b1.cell 0 rfl
    have k23 : W1.cell? ⟨(w.heap.size + 1 + 1), 1, none⟩ = some (.int .u64 yr) := b1.cell 1 rfl
    have k28 : W1.cell? ⟨(w.heap.size + 1 + 1), 2, none⟩ = some (.int .u8 yi) := b1.cell 2 rfl
    have x3 : Box W2 W1.heap.size #[.int .i64 (cmpI xc yc), .int .i64 (cmpI xr yr), .int .i64 (cmpI xi yi)] := by rw [hW2]; exact Box.new rfl
    have q0 : W2.cell? ⟨W1.heap.size, 0, none⟩ = some (.int .i64 (cmpI xc yc)) := x3.cell 0 rfl
    have q1 : W2.cell? ⟨W1.heap.size, 1, none⟩ = some (.int .i64 (cmpI xr yr)) := x3.cell 1 rfl
    have q2 : W2.cell? ⟨W1.heap.size, 2, none⟩ = some (.int .i64 (cmpI xi yi)) := x3.cell 2 rfl
    have HW1 := hid hW1
    have HW2 := hid hW2
    clear hW1 hW2 b1 b2 x3
    refine wp_region_vals (fun zz => (#[.pointer (some ⟨(w.heap.size + 1 + 1 + 1), 0, none⟩), .pointer (some ⟨(w.heap.size + 1 + 1 + 1), 0, none⟩), .int .u8 xc, .pointer (some ⟨(w.heap.size + 1 + 1), 0, none⟩), .pointer (some ⟨(w.heap.size + 1 + 1), 0, none⟩), .int .u8 yc, .int .i64 (cmpI xc yc), .pointer (some ⟨(w.heap.size + 1 + 1 + 1), 0, none⟩), .pointer (some ⟨(w.heap.size + 1 + 1 + 1), 1, none⟩), .int .u64 xr, .pointer (some ⟨(w.heap.size + 1 + 1), 0, none⟩), .pointer (some ⟨(w.heap.size + 1 + 1), 1, none⟩), .int .u64 yr, .int .i64 (cmpI xr yr), .pointer (some ⟨(w.heap.size + 1 + 1 + 1), 2, none⟩), .int .u8 xi, .pointer (some ⟨(w.heap.size + 1 + 1), 2, none⟩), .int .u8 yi, .int .i64 (cmpI xi yi), .slice (some ⟨W1.heap.size, 0, none⟩) 3 3, .int .i64 (orI (cmpI xc yc) (cmpI xr yr) (cmpI xi yi)), .int .i64 (orI (cmpI xc yc) (cmpI xr yr) (cmpI xi yi))] : Array Value).getD zz undef) (fun k wx => wx = (match k with | 0 => W1 | _ => W2)) [19] [[], [0], [0, 1], [], [3], [3, 4], [0, 1, 2, 3, 4, 5], [], [7], [7, 8], [], [10], [10, 11], [7, 8, 9, 10, 11, 12], [], [14], [], [16], [14, 15, 16, 17], [0, 1, 2, 3, 4, 5, 6, 7, 8, 9, 10, 11, 12, 13, 14, 15, 16, 17, 18], [0, 1, 2, 3, 4, 5, 6, 7, 8, 9, 10, 11, 12, 13, 14, 15, 16, 17, 18, 19], [0, 1, 2, 3, 4, 5, 6, 7, 8, 9, 10, 11, 12, 13, 14, 15, 16, 17, 18, 19, 20]] [0, 0, 0, 0, 0, 0, 0, 0, 0, 0, 0, 0, 0, 0, 0, 0, 0, 0, 0, 0, 1, 1] [0, 0, 0, 0, 0, 0, 0, 0, 0, 0, 0, 0, 0, 0, 0, 0, 0, 0, 0, 0, 1, 1] hmx (by kernel_rfl) (by kernel_rfl) (by kernel_rfl) HW1.out.symm ?_ ?_
    · intro ρ hc hg hf hd ho
      refine ⟨?_, ?_, ?_, ?_, ?_, ?_, ?_, ?_, ?_, ?_, ?_, ?_, ?_, ?_, ?_, ?_, ?_, ?_, ?_, ?_, ?_, ?_, trivial⟩
      · intro zk wx hl hh _ hO -- 0: fieldAddr 39 t5 0
        have e5 : ρ (.tmp 5) = .pointer (some ⟨(w.heap.size + 1 + 1 + 1), 0, none⟩) := ho 5 (by rfl)
        obtain rfl : zk = 0 := by simp at hl hh; omega
        refine (if_pos (by rfl)).mpr ?_
        simp [go_sem, execOp, resolve, invoke, builtin, opRes_value, opRes_skip, opRes_enter, hc, hg, hf, hO, e5]
      · intro zk wx hl hh _ hO -- 1: fieldAddr 31 t11 0
        have e11 : ρ (.tmp 11) = .pointer (some ⟨(w.heap.size + 1 + 1 + 1), 0, none⟩) := hd 0 _ 11 rfl rfl
        obtain rfl : zk = 0 := by simp at hl hh; omega
        refine (if_pos (by rfl)).mpr ?_
        simp [go_sem, execOp, resolve, invoke, builtin, opRes_value, opRes_skip, opRes_enter, hc, hg, hf, hO, e11]
      · intro zk wx hl hh _ hO -- 2: load 5 t12
        have e12 : ρ (.tmp 12) = .pointer (some ⟨(w.heap.size + 1 + 1 + 1), 0, none⟩) := hd 1 _ 12 rfl rfl
        obtain rfl : zk = 0 := by simp at hl hh; omega
        refine (if_pos (by rfl)).mpr ?_
        have f0 := k13
        obtain rfl : wx = W1 := hO
        have hO := True.intro
        simp [go_sem, execOp, resolve, invoke, builtin, opRes_value, opRes_skip, opRes_enter, hc, hg, hf, hO, e12, f0]
      · intro zk wx hl hh _ hO -- 3: fieldAddr 39 t6 0
        have e6 : ρ (.tmp 6) = .pointer (some ⟨(w.heap.size + 1 + 1), 0, none⟩) := ho 6 (by rfl)
        obtain rfl : zk = 0 := by simp at hl hh; omega
        refine (if_pos (by rfl)).mpr ?_
        simp [go_sem, execOp, resolve, invoke, builtin, opRes_value, opRes_skip, opRes_enter, hc, hg, hf, hO, e6]
      · intro zk wx hl hh _ hO -- 4: fieldAddr 31 t14 0
        have e14 : ρ (.tmp 14) = .pointer (some ⟨(w.heap.size + 1 + 1), 0, none⟩) := hd 3 _ 14 rfl rfl
        obtain rfl : zk = 0 := by simp at hl hh; omega
        refine (if_pos (by rfl)).mpr ?_
        simp [go_sem, execOp, resolve, invoke, builtin, opRes_value, opRes_skip, opRes_enter, hc, hg, hf, hO, e14]
      · intro zk wx hl hh _ hO -- 5: load 5 t15
        have e15 : ρ (.tmp 15) = .pointer (some ⟨(w.heap.size + 1 + 1), 0, none⟩) := hd 4 _ 15 rfl rfl
        obtain rfl : zk = 0 := by simp at hl hh; omega
        refine (if_pos (by rfl)).mpr ?_
        have f0 := k16
        obtain rfl : wx = W1 := hO
        have hO := True.intro
        simp [go_sem, execOp, resolve, invoke, builtin, opRes_value, opRes_skip, opRes_enter, hc, hg, hf, hO, e15, f0]
      · intro zk wx hl hh _ hO -- 6: call { value (Operand.func 28), args := #[t13, t16], argTypes := #[5, 5] }
        have e13 : ρ (.tmp 13) = .int .u8 xc := hd 2 _ 13 rfl rfl
        have e16 : ρ (.tmp 16) = .int .u8 yc := hd 5 _ 16 rfl rfl
        obtain rfl : zk = 0 := by simp at hl hh; omega
        refine (if_pos (by rfl)).mpr ?_
        obtain rfl : wx = W1 := hO
        have hO := True.intro
        simp [go_sem, execOp, resolve, invoke, builtin, opRes_value, opRes_skip, opRes_enter, hc, hg, hf, hO, e13, e16]
        exact (compareB_any _ _ _).mono fun e wy h => ⟨h.1, h.2.symm⟩
      · intro zk wx hl hh _ hO -- 7: fieldAddr 39 t5 0
        have e5 : ρ (.tmp 5) = .pointer (some ⟨(w.heap.size + 1 + 1 + 1), 0, none⟩) := ho 5 (by rfl)
        obtain rfl : zk = 0 := by simp at hl hh; omega
        refine (if_pos (by rfl)).mpr ?_
        simp [go_sem, execOp, resolve, invoke, builtin, opRes_value, opRes_skip, opRes_enter, hc, hg, hf, hO, e5]
      · intro zk wx hl hh _ hO -- 8: fieldAddr 31 t18 1
        have e18 : ρ (.tmp 18) = .pointer (some ⟨(w.heap.size + 1 + 1 + 1), 0, none⟩) := hd 7 _ 18 rfl rfl
        obtain rfl : zk = 0 := by simp at hl hh; omega
        refine (if_pos (by rfl)).mpr ?_
        simp [go_sem, execOp, resolve, invoke, builtin, opRes_value, opRes_skip, opRes_enter, hc, hg, hf, hO, e18]
      · intro zk wx hl hh _ hO -- 9: load 29 t19
        have e19 : ρ (.tmp 19) = .pointer (some ⟨(w.heap.size + 1 + 1 + 1), 1, none⟩) := hd 8 _ 19 rfl rfl
        obtain rfl : zk = 0 := by simp at hl hh; omega
        refine (if_pos (by rfl)).mpr ?_
        have f0 := k20
        obtain rfl : wx = W1 := hO
        have hO := True.intro
        simp [go_sem, execOp, resolve, invoke, builtin, opRes_value, opRes_skip, opRes_enter, hc, hg, hf, hO, e19, f0]
      · intro zk wx hl hh _ hO -- 10: fieldAddr 39 t6 0
        have e6 : ρ (.tmp 6) = .pointer (some ⟨(w.heap.size + 1 + 1), 0, none⟩) := ho 6 (by rfl)
        obtain rfl : zk = 0 := by simp at hl hh; omega
        refine (if_pos (by rfl)).mpr ?_
        simp [go_sem, execOp, resolve, invoke, builtin, opRes_value, opRes_skip, opRes_enter, hc, hg, hf, hO, e6]
      · intro zk wx hl hh _ hO -- 11: fieldAddr 31 t21 1
        have e21 : ρ (.tmp 21) = .pointer (some ⟨(w.heap.size + 1 + 1), 0, none⟩) := hd 10 _ 21 rfl rfl
        obtain rfl : zk = 0 := by simp at hl hh; omega
        refine (if_pos (by rfl)).mpr ?_
        simp [go_sem, execOp, resolve, invoke, builtin, opRes_value, opRes_skip, opRes_enter, hc, hg, hf, hO, e21]
      · intro zk wx hl hh _ hO -- 12: load 29 t22
        have e22 : ρ (.tmp 22) = .pointer (some ⟨(w.heap.size + 1 + 1), 1, none⟩) := hd 11 _ 22 rfl rfl
        obtain rfl : zk = 0 := by simp at hl hh; omega
        refine (if_pos (by rfl)).mpr ?_
        have f0 := k23
        obtain rfl : wx = W1 := hO
        have hO := True.intro
        simp [go_sem, execOp, resolve, invoke, builtin, opRes_value, opRes_skip, opRes_enter, hc, hg, hf, hO, e22, f0]
      · intro zk wx hl hh _ hO -- 13: call { value (Operand.func 29), args := #[t20, t23], argTypes := #[29, 29] }
        have e20 : ρ (.tmp 20) = .int .u64 xr := hd 9 _ 20 rfl rfl
        have e23 : ρ (.tmp 23) = .int .u64 yr := hd 12 _ 23 rfl rfl
        obtain rfl : zk = 0 := by simp at hl hh; omega
        refine (if_pos (by rfl)).mpr ?_
        obtain rfl : wx = W1 := hO
        have hO := True.intro
        simp [go_sem, execOp, resolve, invoke, builtin, opRes_value, opRes_skip, opRes_enter, hc, hg, hf, hO, e20, e23]
        exact (compareU_any _ _ _).mono fun e wy h => ⟨h.1, h.2.symm⟩
      · intro zk wx hl hh _ hO -- 14: fieldAddr 39 t5 1
        have e5 : ρ (.tmp 5) = .pointer (some ⟨(w.heap.size + 1 + 1 + 1), 0, none⟩) := ho 5 (by rfl)
        obtain rfl : zk = 0 := by simp at hl hh; omega
        refine (if_pos (by rfl)).mpr ?_
        simp [go_sem, execOp, resolve, invoke, builtin, opRes_value, opRes_skip, opRes_enter, hc, hg, hf, hO, e5]
      · intro zk wx hl hh _ hO -- 15: load 5 t25
        have e25 : ρ (.tmp 25) = .pointer (some ⟨(w.heap.size + 1 + 1 + 1), 2, none⟩) := hd 14 _ 25 rfl rfl
        obtain rfl : zk = 0 := by simp at hl hh; omega
        refine (if_pos (by rfl)).mpr ?_
        have f0 := k26
        obtain rfl : wx = W1 := hO
        have hO := True.intro
        simp [go_sem, execOp, resolve, invoke, builtin, opRes_value, opRes_skip, opRes_enter, hc, hg, hf, hO, e25, f0]
      · intro zk wx hl hh _ hO -- 16: fieldAddr 39 t6 1
        have e6 : ρ (.tmp 6) = .pointer (some ⟨(w.heap.size + 1 + 1), 0, none⟩) := ho 6 (by rfl)
        obtain rfl : zk = 0 := by simp at hl hh; omega
        refine (if_pos (by rfl)).mpr ?_
        simp [go_sem, execOp, resolve, invoke, builtin, opRes_value, opRes_skip, opRes_enter, hc, hg, hf, hO, e6]
      · intro zk wx hl hh _ hO -- 17: load 5 t27
        have e27 : ρ (.tmp 27) = .pointer (some ⟨(w.heap.size + 1 + 1), 2, none⟩) := hd 16 _ 27 rfl rfl
        obtain rfl : zk = 0 := by simp at hl hh; omega
        refine (if_pos (by rfl)).mpr ?_
        have f0 := k28
        obtain rfl : wx = W1 := hO
        have hO := True.intro
        simp [go_sem, execOp, resolve, invoke, builtin, opRes_value, opRes_skip, opRes_enter, hc, hg, hf, hO, e27, f0]
      · intro zk wx hl hh _ hO -- 18: call { value (Operand.func 28), args := #[t26, t28], argTypes := #[5, 5] }
        have e26 : ρ (.tmp 26) = .int .u8 xi := hd 15 _ 26 rfl rfl
        have e28 : ρ (.tmp 28) = .int .u8 yi := hd 17 _ 28 rfl rfl
        obtain rfl : zk = 0 := by simp at hl hh; omega
        refine (if_pos (by rfl)).mpr ?_
        obtain rfl : wx = W1 := hO
        have hO := True.intro
        simp [go_sem, execOp, resolve, invoke, builtin, opRes_value, opRes_skip, opRes_enter, hc, hg, hf, hO, e26, e28]
        exact (compareB_any _ _ _).mono fun e wy h => ⟨h.1, h.2.symm⟩
      · intro zk wx hl hh _ hO -- 19: buildSlice 117 3 #[(0, t17), (1, t24), (2, t29)]
        have e17 : ρ (.tmp 17) = .int .i64 (cmpI xc yc) := hd 6 _ 17 rfl rfl
        have e24 : ρ (.tmp 24) = .int .i64 (cmpI xr yr) := hd 13 _ 24 rfl rfl
        have e29 : ρ (.tmp 29) = .int .i64 (cmpI xi yi) := hd 18 _ 29 rfl rfl
        obtain rfl : zk = 0 := by simp at hl hh; omega
        refine (if_pos (by rfl)).mpr ?_
        obtain rfl : wx = W1 := hO
        have hO := True.intro
        simp [go_sem, execOp, resolve, invoke, builtin, opRes_value, opRes_skip, opRes_enter, hc, hg, hf, hO, e17, e24, e29]
        exact HW2.out.symm
      · intro zk wx hl hh _ hO -- 20: call { value (Operand.func 27), args := #[t30], argTypes := #[117] }
        have e30 : ρ (.tmp 30) = .slice (some ⟨W1.heap.size, 0, none⟩) 3 3 := hd 19 _ 30 rfl rfl
        obtain rfl : zk = 1 := by simp at hl hh; omega
        refine (if_pos (by rfl)).mpr ?_
        obtain rfl : wx = W2 := hO
        have hO := True.intro
        simp [go_sem, execOp, resolve, invoke, builtin, opRes_value, opRes_skip, opRes_enter, hc, hg, hf, hO, e30]
        exact (or_any _ _ _ _ _ q0 q1 q2).mono fun e wy h => ⟨h.1, h.2.symm⟩
      · intro zk wx hl hh _ hO -- 21: assign t31
        have e31 : ρ (.tmp 31) = .int .i64 (orI (cmpI xc yc) (cmpI xr yr) (cmpI xi yi)) := hd 20 _ 31 rfl rfl
        obtain rfl : zk = 1 := by simp at hl hh; omega
        refine (if_pos (by rfl)).mpr ?_
        simp [go_sem, execOp, resolve, invoke, builtin, opRes_value, opRes_skip, opRes_enter, hc, hg, hf, hO, e31]
    · intro wx hO
      simp only [ssaAct, Act.put, List.setIfInBounds_toArray, List.set_cons_zero, List.set_cons_succ, Nat.zero_add, Nat.reduceAdd]
      obtain rfl : wx = W2 := hO
      go_wp2
      go_ret
      refine ⟨rfl, 2, #[.cells #[.int .u8 xc, .int .u64 xr, .int .u8 xi, .bool x1, .int .u8 x2, .int .u8 x3, .int .u32 x4, .bool x5] 61, .cells #[.int .u8 yc, .int .u64 yr, .int .u8 yi, .bool y1, .int .u8 y2, .int .u8 y3, .int .u32 y4, .bool y5] 61, .cells #[.int .u8 yc, .int .u64 yr, .int .u8 yi] 39, .cells #[.int .u8 xc, .int .u64 xr, .int .u8 xi] 39, .cells #[.int .i64 (cmpI xc yc), .int .i64 (cmpI xr yr), .int .i64 (cmpI xi yi)] 3], ?_⟩
      rw [HW2.out, HW1.out]
      rfl
end Go.Proofs.YtdnaegleifhmgaaGreat
