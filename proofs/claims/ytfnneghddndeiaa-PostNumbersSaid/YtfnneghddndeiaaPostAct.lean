/- POST: what is done with a post, as it comes in. -/
import Derived.Test.YtfnneghddndeiaaPostPlain
import Derived.Test.YtfnneghddndeiaaFlat
import Derived.Test.YtfnneghddndeiaaBoxLoad
namespace Go.Proofs.Ytfnneghddndeiaa
open Go.RowKit Go.Lib Go.Tk Go.WideShapes

structure PAct where
  dO : Int
  who : Int
  num : Int
  m : Msg
deriving DecidableEq, Inhabited
def encAct (x : PAct) : List Value := [.int .i64 x.dO, .int .u8 x.who, .int .u64 x.num] ++ encMsg x.m
theorem encAct_len (x : PAct) : (encAct x).length = 15 := rfl
theorem encAct_one (x : PAct) : ∀ v ∈ encAct x, v.oneCell' = true := by simp [encAct, encMsg, Value.oneCell']
structure MsgOk (m : Msg) : Prop where
  k : 0 ≤ m.k ∧ m.k ≤ 255
  tc : 0 ≤ m.tc ∧ m.tc ≤ 255
  tr : 0 ≤ m.tr ∧ m.tr ≤ 18446744073709551615
  ix : 0 ≤ m.ix ∧ m.ix ≤ 255
  lc : 0 ≤ m.lc ∧ m.lc ≤ 255
  lf : 0 ≤ m.lf ∧ m.lf ≤ 65535
  lx : 0 ≤ m.lx ∧ m.lx ≤ 4294967295
  v : -9223372036854775808 ≤ m.v ∧ m.v ≤ 9223372036854775807
  st : 0 ≤ m.st ∧ m.st ≤ 255
  nn : 0 ≤ m.nn ∧ m.nn ≤ 4294967295
  amt : -9223372036854775808 ≤ m.amt ∧ m.amt ≤ 9223372036854775807
  cd : -9223372036854775808 ≤ m.cd ∧ m.cd ≤ 9223372036854775807
structure PActOk (x : PAct) : Prop where
  dO : -9223372036854775808 ≤ x.dO ∧ x.dO ≤ 9223372036854775807
  who : 0 ≤ x.who ∧ x.who ≤ 255
  num : 0 ≤ x.num ∧ x.num ≤ 18446744073709551615
  m : MsgOk x.m
theorem wfi64' {a : Int} (h : (Lit.int .i64 a).wf = true) : -9223372036854775808 ≤ a ∧ a ≤ 9223372036854775807 := by
  simpa [Lit.wf, IntKind.min, IntKind.max, IntKind.signed, IntKind.bits] using h
theorem wfu8' {a : Int} (h : (Lit.int .u8 a).wf = true) : 0 ≤ a ∧ a ≤ 255 := by
  simpa [Lit.wf, IntKind.min, IntKind.max, IntKind.signed, IntKind.bits] using h
theorem wfu16' {a : Int} (h : (Lit.int .u16 a).wf = true) : 0 ≤ a ∧ a ≤ 65535 := by
  simpa [Lit.wf, IntKind.min, IntKind.max, IntKind.signed, IntKind.bits] using h
theorem wfu32' {a : Int} (h : (Lit.int .u32 a).wf = true) : 0 ≤ a ∧ a ≤ 4294967295 := by
  simpa [Lit.wf, IntKind.min, IntKind.max, IntKind.signed, IntKind.bits] using h
theorem wfu64' {a : Int} (h : (Lit.int .u64 a).wf = true) : 0 ≤ a ∧ a ≤ 18446744073709551615 := by
  simpa [Lit.wf, IntKind.min, IntKind.max, IntKind.signed, IntKind.bits] using h

variable {H : Type} {enc : TypeId × Value → H} {w : World} {base : Nat} {spare : Nat → Bool} {held : Bool}

theorem act_of {cs : List Value} (h : FlatI [.i64, .u8, .u64, .u8, .u8, .u64, .u8, .u8, .u16, .u32, .i64, .u8, .u32, .i64, .i64] cs) : ∃ x : PAct, encAct x = cs ∧ PActOk x := by
  obtain ⟨z0, _, rfl, w0, z1, _, rfl, w1, z2, _, rfl, w2, z3, _, rfl, w3, z4, _, rfl, w4, z5, _, rfl, w5, z6, _, rfl, w6, z7, _, rfl, w7, z8, _, rfl, w8, z9, _, rfl, w9, z10, _, rfl, w10, z11, _, rfl, w11, z12, _, rfl, w12, z13, _, rfl, w13, z14, _, rfl, w14, rfl⟩ := h
  exact ⟨⟨z0, z1, z2, ⟨z3, z4, z5, z6, z7, z8, z9, z10, z11, z12, z13, z14⟩⟩, rfl, wfi64' w0, wfu8' w1, wfu64' w2, wfu8' w3, wfu8' w4, wfu64' w5, wfu8' w6, wfu8' w7, wfu16' w8, wfu32' w9, wfi64' w10, wfu8' w11, wfu32' w12, wfi64' w13, wfi64' w14⟩
def actTs : List TypeId := [3, 5, 31, 5, 5, 31, 5, 5, 36, 37, 2, 40, 37, 2, 25]
theorem actTs_flat : flatT Try.prog 6 46 = some actTs := by kernel_rfl
theorem actTs_ints : actTs.map Try.prog.underlying = [IntKind.i64, .u8, .u64, .u8, .u8, .u64, .u8, .u8, .u16, .u32, .i64, .u8, .u32, .i64, .i64].map (fun k => some (.int k)) := by kernel_rfl
theorem open_act {r : Reach} {b0 : Nat} {v : Value} {d : DataW H} {p : List MemPlace} (hv : Value.okWide Try.prog w r b0 46 v) (h : DataW.Trod enc Try.prog w base spare held 46 v d p) :
    ∃ x : PAct, v = .agg (encAct x).toArray ∧ PActOk x := by
  obtain ⟨cs, rfl, hf⟩ := flat_open 6 Try.underlying46 actTs_flat hv h
  obtain ⟨x, rfl, ok⟩ := act_of (hf.ints actTs_ints)
  exact ⟨x, rfl, ok⟩
theorem acts_cell {n : Nat} {v : Value} {y : DataW H × List MemPlace} (h : DataW.trod enc Try.prog w base spare held n 22 [v] = some y) :
    ∃ (a : Option Addr) (l : List PAct) (c : Nat), v = .slice a l.length c ∧ Row w a (cellsL encAct l) ∧ (a = none → c = 0) ∧ l.length ≤ maxLen ∧ ∀ x ∈ l, PActOk x := by
  obtain ⟨a, len, cap, rows, rfl, hlen, hrows, hr, hn, hm, _⟩ := slice_rows (fun cs => ∃ l : PAct, encAct l = cs ∧ PActOk l) Try.underlying22 (show Try.prog.cellsOf 46 = 15 by kernel_rfl) (by decide)
    (fun n cs y hl h => act_of ((flat_of 6 _ _ actTs_flat n cs y h (by rw [hl]; kernel_rfl)).ints actTs_ints)) h
  obtain ⟨l, hl⟩ := listOf (enc := fun x : { x : PAct // PActOk x } => encAct x.1) (Q := fun cs => ∃ l : PAct, encAct l = cs ∧ PActOk l) (fun r ⟨x, hx, hk⟩ => ⟨⟨x, hk⟩, hx⟩) rows (fun r hr => (hrows r hr).2)
  have hl2 : (l.map (·.1)).map encAct = rows := by rw [List.map_map]; exact hl
  have hl3 : (l.map (·.1)).length = len := by rw [← hlen, ← hl2]; simp
  refine ⟨a, l.map (·.1), cap, by rw [hl3], ?_, hn, by rw [hl3]; exact hm, fun x hx => ?_⟩
  · unfold cellsL; rw [hl2]; exact hr
  · obtain ⟨z, _, rfl⟩ := List.mem_map.1 hx; exact z.2
end Go.Proofs.Ytfnneghddndeiaa
