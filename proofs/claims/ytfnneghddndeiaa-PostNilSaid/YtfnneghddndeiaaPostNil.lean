/- POST, PostNil: no post has nothing. -/
import Derived.Test.YtfnneghddndeiaaPost8
namespace Go.Proofs.Ytfnneghddndeiaa
open Go.RowKit Go.Lib Go.Tk Go.Shelf Go.Maps
attribute [-go_sem] loadCellsFrom

set_option maxRecDepth 100000 in
set_option maxHeartbeats 4000000 in
theorem postNil_any (dO who num : Int) (m : Msg) (w0 : World) :
    Calls Try.prog 5 #[.agg #[.int .i64 dO, .int .u8 who, .int .u64 num, .int .u8 m.k, .int .u8 m.tc, .int .u64 m.tr, .int .u8 m.ix, .int .u8 m.lc, .int .u16 m.lf, .int .u32 m.lx, .int .i64 m.v, .int .u8 m.st, .int .u32 m.nn, .int .i64 m.amt, .int .i64 m.cd]] w0 fun e w' => e = .returned (.bool true) ∧ Below w0.heap.size w0 w' := by
  obtain ⟨w1, hw1⟩ : ∃ w1, w1 = w0.alloc (.cells #[.int .i64 dO, .int .u8 who, .int .u64 num, .int .u8 m.k, .int .u8 m.tc, .int .u64 m.tr, .int .u8 m.ix, .int .u8 m.lc, .int .u16 m.lf, .int .u32 m.lx, .int .i64 m.v, .int .u8 m.st, .int .u32 m.nn, .int .i64 m.amt, .int .i64 m.cd] 46) := ⟨_, rfl⟩
  have X0 : Hid (Box w1 w0.heap.size #[.int .i64 dO, .int .u8 who, .int .u64 num, .int .u8 m.k, .int .u8 m.tc, .int .u64 m.tr, .int .u8 m.ix, .int .u8 m.lc, .int .u16 m.lf, .int .u32 m.lx, .int .i64 m.v, .int .u8 m.st, .int .u32 m.nn, .int .i64 m.amt, .int .i64 m.cd]) := hid (by rw [hw1]; exact Box.new rfl)
  have B0 : Hid (Below w0.heap.size w0 w1) := hid (by rw [hw1]; exact below_alloc _ _)
  have HW := hid hw1
  clear hw1
  go_enter Try.func5, Try.ntmps5
  go_wp2_with fail
  rw [← HW.out]
  refine (new_at 0 2 _ (by omega) (by omega) rfl).mono ?_
  rintro e w2 ⟨pb, rfl, -, hb⟩
  have X1 := hid (X0.out.kept hb)
  have B1 : Hid (Below w0.heap.size w0 w2) := hid (B0.out.trans (hb.mono B0.out.size))
  have c1 : w2.cell? ⟨w0.heap.size, 1, none⟩ = some (.int .u8 who) := X1.out.cell 1 rfl
  have ld : Sem.run Try.prog (loadCellsFrom ⟨w0.heap.size, 3, none⟩ 0 12 #[]) w2 = .ok #[.int .u8 m.k, .int .u8 m.tc, .int .u64 m.tr, .int .u8 m.ix, .int .u8 m.lc, .int .u16 m.lf, .int .u32 m.lx, .int .i64 m.v, .int .u8 m.st, .int .u32 m.nn, .int .i64 m.amt, .int .i64 m.cd] w2 := box_part (off := 3) X1.out #[.int .u8 m.k, .int .u8 m.tc, .int .u64 m.tr, .int .u8 m.ix, .int .u8 m.lc, .int .u16 m.lf, .int .u32 m.lx, .int .i64 m.v, .int .u8 m.st, .int .u32 m.nn, .int .i64 m.amt, .int .i64 m.cd] rfl (fun j v h => by match j, h with | 0, h | 1, h | 2, h | 3, h | 4, h | 5, h | 6, h | 7, h | 8, h | 9, h | 10, h | 11, h => exact h)
  clear hb X0 B0 HW
  go_wp2_with fail
  refine (push_nil who m _).mono ?_
  rintro e w3 ⟨rfl, hb⟩
  clear c1 ld
  have X2 := hid (X1.out.kept hb)
  have B2 : Hid (Below w0.heap.size w0 w3) := hid (B1.out.trans (hb.mono B1.out.size))
  have c1 : w3.cell? ⟨w0.heap.size, 1, none⟩ = some (.int .u8 who) := X2.out.cell 1 rfl
  clear hb X1 B1
  go_wp2_with fail
  refine (len_nil who _).mono ?_
  rintro e w4 ⟨rfl, hb⟩
  clear c1
  have X3 := hid (X2.out.kept hb)
  have B3 : Hid (Below w0.heap.size w0 w4) := hid (B2.out.trans (hb.mono B2.out.size))
  have c1 : w4.cell? ⟨w0.heap.size, 1, none⟩ = some (.int .u8 who) := X3.out.cell 1 rfl
  clear hb X2 B2
  go_wp2_with fail
  refine (given_nil who _).mono ?_
  rintro e w5 ⟨rfl, hb⟩
  clear c1
  have X4 := hid (X3.out.kept hb)
  have B4 : Hid (Below w0.heap.size w0 w5) := hid (B3.out.trans (hb.mono B3.out.size))
  have c1 : w5.cell? ⟨w0.heap.size, 1, none⟩ = some (.int .u8 who) := X4.out.cell 1 rfl
  have c2 : w5.cell? ⟨w0.heap.size, 2, none⟩ = some (.int .u64 num) := X4.out.cell 2 rfl
  clear hb X3 B3
  go_wp2_with fail
  refine (ack_nil who num _).mono ?_
  rintro e w6 ⟨rfl, hb⟩
  clear c1 c2
  have X5 := hid (X4.out.kept hb)
  have B5 : Hid (Below w0.heap.size w0 w6) := hid (B4.out.trans (hb.mono B4.out.size))
  have c1 : w6.cell? ⟨w0.heap.size, 1, none⟩ = some (.int .u8 who) := X5.out.cell 1 rfl
  clear hb X4 B4
  go_wp2_with fail
  refine (last_nil who _).mono ?_
  rintro e w7 ⟨rfl, hb⟩
  clear c1
  have X6 := hid (X5.out.kept hb)
  have B6 : Hid (Below w0.heap.size w0 w7) := hid (B5.out.trans (hb.mono B5.out.size))
  have c1 : w7.cell? ⟨w0.heap.size, 1, none⟩ = some (.int .u8 who) := X6.out.cell 1 rfl
  have c2 : w7.cell? ⟨w0.heap.size, 2, none⟩ = some (.int .u64 num) := X6.out.cell 2 rfl
  clear hb X5 B5
  go_wp2_with fail
  refine (took_nil who num _).mono ?_
  rintro e w8 ⟨rfl, hb⟩
  clear c1 c2
  have X7 := hid (X6.out.kept hb)
  have B7 : Hid (Below w0.heap.size w0 w8) := hid (B6.out.trans (hb.mono B6.out.size))
  clear hb X6 B6
  go_wp2_with fail
  refine (packets_nil _).mono ?_
  rintro e w9 ⟨rfl, hb⟩
  have X8 := hid (X7.out.kept hb)
  have B8 : Hid (Below w0.heap.size w0 w9) := hid (B7.out.trans (hb.mono B7.out.size))
  clear hb X7 B7
  go_wp2_with fail
  refine (clone_nil _).mono ?_
  rintro e w10 ⟨rfl, rfl⟩
  go_wp2_with fail
  refine (same_nil _).mono ?_
  rintro e w10 ⟨rfl, hb⟩
  have X9 := hid (X8.out.kept hb)
  have B9 : Hid (Below w0.heap.size w0 w10) := hid (B8.out.trans (hb.mono B8.out.size))
  clear hb X8 B8
  go_wp2_with fail
  refine (same_nil1 _ _).mono ?_
  rintro e w11 ⟨rfl, hb⟩
  have X10 := hid (X9.out.kept hb)
  have B10 : Hid (Below w0.heap.size w0 w11) := hid (B9.out.trans (hb.mono B9.out.size))
  clear hb X9 B9
  go_wp2_with fail
  refine (same_nil2 _ _).mono ?_
  rintro e w12 ⟨rfl, hb⟩
  have X11 := hid (X10.out.kept hb)
  have B11 : Hid (Below w0.heap.size w0 w12) := hid (B10.out.trans (hb.mono B10.out.size))
  clear hb X10 B10
  go_wp2_with fail
  refine (wakes19 _).mono ?_
  rintro e w13 ⟨rfl, hb⟩
  have BB := hid (B11.out.trans (hb.mono B11.out.size))
  clear hb X11
  go_wp2
  go_ret
  exact ⟨rfl, BB.out⟩
end Go.Proofs.Ytfnneghddndeiaa
