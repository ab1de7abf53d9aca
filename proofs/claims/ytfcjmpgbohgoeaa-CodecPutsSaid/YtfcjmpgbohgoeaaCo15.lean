/- CODEC: records that come in. -/
import Derived.Test.YtfcjmpgbohgoeaaCo14
import Derived.Test.YtfcjmpgbohgoeaaFlat
import Derived.WideShapes
import Derived.Lib.SmallJoins
namespace Go.Proofs.Ytfcjmpgbohgoeaa
set_option linter.unusedSimpArgs false
open Go.RowKit Go.Lib Go.Tk Go.Shelf Go.Vc Go.WideShapes Go.Joins Go.ChangeShapes
set_option linter.unusedVariables false
theorem wf_i64 {a : Int} (h : (Lit.int .i64 a).wf = true) : -9223372036854775808 ≤ a ∧ a ≤ 9223372036854775807 := by
 simpa [Lit.wf, IntKind.min, IntKind.max, IntKind.signed, IntKind.bits] using h
theorem wf_u8 {a : Int} (h : (Lit.int .u8 a).wf = true) : 0 ≤ a ∧ a ≤ 255 := by
 simpa [Lit.wf, IntKind.min, IntKind.max, IntKind.signed, IntKind.bits] using h
theorem wf_u16 {a : Int} (h : (Lit.int .u16 a).wf = true) : 0 ≤ a ∧ a ≤ 65535 := by
 simpa [Lit.wf, IntKind.min, IntKind.max, IntKind.signed, IntKind.bits] using h
theorem wf_u32 {a : Int} (h : (Lit.int .u32 a).wf = true) : 0 ≤ a ∧ a ≤ 4294967295 := by
 simpa [Lit.wf, IntKind.min, IntKind.max, IntKind.signed, IntKind.bits] using h
theorem wf_u64 {a : Int} (h : (Lit.int .u64 a).wf = true) : 0 ≤ a ∧ a ≤ 18446744073709551615 := by
 simpa [Lit.wf, IntKind.min, IntKind.max, IntKind.signed, IntKind.bits] using h
def In : IntKind → Int → Prop
 | .u8, x => 0 ≤ x ∧ x ≤ 255
 | .u16, x => 0 ≤ x ∧ x ≤ 65535
 | .u32, x => 0 ≤ x ∧ x ≤ 4294967295
 | .u64, x => 0 ≤ x ∧ x ≤ 18446744073709551615
 | .i64, x => -9223372036854775808 ≤ x ∧ x ≤ 9223372036854775807
 | _, _ => False
structure LegIn (l : LegV) : Prop where
 c : In .u8 l.c
 f : In .u16 l.f
 x : In .u32 l.x
structure TaxIn (t : TaxV) : Prop where
 code : t.code.size ≤ maxLen
 amt : In .i64 t.amt
structure TickIn (t : TickV) : Prop where
 c : In .u8 t.c
 r : In .u64 t.r
structure CmdIn (c : CmdV) : Prop where
 kind : In .u8 c.kind
 tick : TickIn c.tick
 at_ : In .u8 c.at_
 name : c.name.size ≤ maxLen
 nl : c.legs.length ≤ maxLen
 legs : ∀ l ∈ c.legs, LegIn l
 fare : In .i64 c.fare
 nt : c.taxes.length ≤ maxLen
 taxes : ∀ t ∈ c.taxes, TaxIn t
 penalty : In .i64 c.penalty
 amount : In .i64 c.amount
structure MsgIn (m : MsgV) : Prop where
 kind : In .u8 m.kind
 tick : TickIn m.tick
 at_ : In .u8 m.at_
 leg : LegIn m.leg
 value : In .i64 m.value
 status : In .u8 m.status
 nonce : In .u32 m.nonce
 amount : In .i64 m.amount
 code : In .i64 m.code
structure RecIn (r : RecV) : Prop where
 kind : In .u8 r.kind
 cmd : CmdIn r.cmd
 frm : In .u8 r.frm
 number : In .u64 r.number
 msg : MsgIn r.msg
theorem RecIn.w {r : RecV} (h : RecIn r) (h1 : r.cmd.legs.length ≤ 1000000) (h2 : r.cmd.taxes.length ≤ 1000000) : RecW r := ⟨h.number, h.cmd.tick.r, h.msg.tick.r, h1, h2⟩
variable {H : Type} {enc : TypeId × Value → H} {w : World} {base : Nat} {spare : Nat → Bool} {held : Bool}
theorem legV_flat : flatT Try.prog 6 36 = some [5, 33, 34] := by kernel_rfl
set_option maxRecDepth 100000 in
theorem legV_of {cs : List Value} (h : FlatAs enc Try.prog w base spare held [5, 33, 34] cs) : ∃ x : LegV, legE x = cs ∧ LegIn x := by
 obtain ⟨v0, cs0, rfl, ⟨n0, y0, t0⟩, h⟩ := h
 obtain ⟨v1, cs1, rfl, ⟨n1, y1, t1⟩, h⟩ := h
 obtain ⟨v2, cs2, rfl, ⟨n2, y2, t2⟩, h⟩ := h
 cases h
 obtain ⟨a0, e0, w0⟩ := int_cell Try.underlying5 t0
 cases e0
 obtain ⟨a1, e1, w1⟩ := int_cell Try.underlying33 t1
 cases e1
 obtain ⟨a2, e2, w2⟩ := int_cell Try.underlying34 t2
 cases e2
 exact ⟨⟨a0, a1, a2⟩, rfl, wf_u8 w0, wf_u16 w1, wf_u32 w2⟩
theorem taxV_flat : flatT Try.prog 6 58 = some [9, 2] := by kernel_rfl
set_option maxRecDepth 100000 in
theorem taxV_of {cs : List Value} (h : FlatAs enc Try.prog w base spare held [9, 2] cs) : ∃ x : TaxV, taxE x = cs ∧ TaxIn x := by
 obtain ⟨v0, cs0, rfl, ⟨n0, y0, t0⟩, h⟩ := h
 obtain ⟨v1, cs1, rfl, ⟨n1, y1, t1⟩, h⟩ := h
 cases h
 obtain ⟨a0, e0, w0⟩ := string_cell Try.underlying9 t0
 cases e0
 obtain ⟨a1, e1, w1⟩ := int_cell Try.underlying2 t1
 cases e1
 exact ⟨⟨a0, a1⟩, rfl, w0, wf_i64 w1⟩
theorem legs_cell_v {n : Nat} {v : Value} {y : DataW H × List MemPlace} (h : DataW.trod enc Try.prog w base spare held n 25 [v] = some y) :
  ∃ (a : Option Addr) (l : List LegV) (c : Nat), v = .slice a l.length c ∧ Row w a (cellsL legE l) ∧ (a = none → c = 0) ∧ l.length ≤ maxLen ∧ ∀ x ∈ l, LegIn x := by
 obtain ⟨a, len, cap, rows, rfl, hlen, hrows, hr, hn, hm, _⟩ := slice_rows (fun cs => ∃ l : LegV, legE l = cs ∧ LegIn l) Try.underlying25 (show Try.prog.cellsOf 36 = 3 by kernel_rfl) (by decide)
  (fun n cs y hl h => legV_of (flat_of 6 _ _ legV_flat n cs y h (by rw [hl]; kernel_rfl))) h
 obtain ⟨l, hl⟩ := listOf (enc := fun x : { x : LegV // LegIn x } => legE x.1) (Q := fun cs => ∃ l : LegV, legE l = cs ∧ LegIn l) (fun r ⟨x, hx, hk⟩ => ⟨⟨x, hk⟩, hx⟩) rows (fun r hr => (hrows r hr).2)
 have hl2 : (l.map (·.1)).map legE = rows := by rw [List.map_map]; exact hl
 have hl3 : (l.map (·.1)).length = len := by rw [← hlen, ← hl2]; simp
 refine ⟨a, l.map (·.1), cap, by rw [hl3], ?_, hn, by rw [hl3]; exact hm, fun x hx => ?_⟩
 · unfold cellsL; rw [hl2]; exact hr
 · obtain ⟨z, _, rfl⟩ := List.mem_map.1 hx; exact z.2
theorem taxes_cell_v {n : Nat} {v : Value} {y : DataW H × List MemPlace} (h : DataW.trod enc Try.prog w base spare held n 26 [v] = some y) :
  ∃ (a : Option Addr) (l : List TaxV) (c : Nat), v = .slice a l.length c ∧ Row w a (cellsL taxE l) ∧ (a = none → c = 0) ∧ l.length ≤ maxLen ∧ ∀ x ∈ l, TaxIn x := by
 obtain ⟨a, len, cap, rows, rfl, hlen, hrows, hr, hn, hm, _⟩ := slice_rows (fun cs => ∃ l : TaxV, taxE l = cs ∧ TaxIn l) Try.underlying26 (show Try.prog.cellsOf 58 = 2 by kernel_rfl) (by decide)
  (fun n cs y hl h => taxV_of (flat_of 6 _ _ taxV_flat n cs y h (by rw [hl]; kernel_rfl))) h
 obtain ⟨l, hl⟩ := listOf (enc := fun x : { x : TaxV // TaxIn x } => taxE x.1) (Q := fun cs => ∃ l : TaxV, taxE l = cs ∧ TaxIn l) (fun r ⟨x, hx, hk⟩ => ⟨⟨x, hk⟩, hx⟩) rows (fun r hr => (hrows r hr).2)
 have hl2 : (l.map (·.1)).map taxE = rows := by rw [List.map_map]; exact hl
 have hl3 : (l.map (·.1)).length = len := by rw [← hlen, ← hl2]; simp
 refine ⟨a, l.map (·.1), cap, by rw [hl3], ?_, hn, by rw [hl3]; exact hm, fun x hx => ?_⟩
 · unfold cellsL; rw [hl2]; exact hr
 · obtain ⟨z, _, rfl⟩ := List.mem_map.1 hx; exact z.2
theorem rec_flat : flatT Try.prog 6 44 = some [5, 5, 5, 22, 5, 9, 25, 2, 26, 2, 2, 5, 22, 5, 5, 22, 5, 5, 33, 34, 2, 37, 34, 2, 40] := by kernel_rfl
set_option maxRecDepth 100000 in
set_option maxHeartbeats 4000000 in
theorem open_rec {r : Reach} {b0 : Nat} {v : Value} {d : DataW H} {p : List MemPlace} (hv : Value.okWide Try.prog w r b0 44 v) (h : DataW.Trod enc Try.prog w base spare held 44 v d p) :
  ∃ (x : RecV) (al at1 : Option Addr) (cl ct : Nat), v = .agg (recCells x (.slice al x.cmd.legs.length cl) (.slice at1 x.cmd.taxes.length ct)) ∧ Row w al (cellsL legE x.cmd.legs) ∧ Row w at1 (cellsL taxE x.cmd.taxes) ∧ RecIn x := by
 obtain ⟨cs, rfl, hz⟩ := flat_open 6 Try.underlying44 rec_flat hv h
 obtain ⟨v0, cs0, rfl, ⟨n0, y0, t0⟩, hz⟩ := hz
 obtain ⟨v1, cs1, rfl, ⟨n1, y1, t1⟩, hz⟩ := hz
 obtain ⟨v2, cs2, rfl, ⟨n2, y2, t2⟩, hz⟩ := hz
 obtain ⟨v3, cs3, rfl, ⟨n3, y3, t3⟩, hz⟩ := hz
 obtain ⟨v4, cs4, rfl, ⟨n4, y4, t4⟩, hz⟩ := hz
 obtain ⟨v5, cs5, rfl, ⟨n5, y5, t5⟩, hz⟩ := hz
 obtain ⟨v6, cs6, rfl, ⟨n6, y6, t6⟩, hz⟩ := hz
 obtain ⟨v7, cs7, rfl, ⟨n7, y7, t7⟩, hz⟩ := hz
 obtain ⟨v8, cs8, rfl, ⟨n8, y8, t8⟩, hz⟩ := hz
 obtain ⟨v9, cs9, rfl, ⟨n9, y9, t9⟩, hz⟩ := hz
 obtain ⟨v10, cs10, rfl, ⟨n10, y10, t10⟩, hz⟩ := hz
 obtain ⟨v11, cs11, rfl, ⟨n11, y11, t11⟩, hz⟩ := hz
 obtain ⟨v12, cs12, rfl, ⟨n12, y12, t12⟩, hz⟩ := hz
 obtain ⟨v13, cs13, rfl, ⟨n13, y13, t13⟩, hz⟩ := hz
 obtain ⟨v14, cs14, rfl, ⟨n14, y14, t14⟩, hz⟩ := hz
 obtain ⟨v15, cs15, rfl, ⟨n15, y15, t15⟩, hz⟩ := hz
 obtain ⟨v16, cs16, rfl, ⟨n16, y16, t16⟩, hz⟩ := hz
 obtain ⟨v17, cs17, rfl, ⟨n17, y17, t17⟩, hz⟩ := hz
 obtain ⟨v18, cs18, rfl, ⟨n18, y18, t18⟩, hz⟩ := hz
 obtain ⟨v19, cs19, rfl, ⟨n19, y19, t19⟩, hz⟩ := hz
 obtain ⟨v20, cs20, rfl, ⟨n20, y20, t20⟩, hz⟩ := hz
 obtain ⟨v21, cs21, rfl, ⟨n21, y21, t21⟩, hz⟩ := hz
 obtain ⟨v22, cs22, rfl, ⟨n22, y22, t22⟩, hz⟩ := hz
 obtain ⟨v23, cs23, rfl, ⟨n23, y23, t23⟩, hz⟩ := hz
 obtain ⟨v24, cs24, rfl, ⟨n24, y24, t24⟩, hz⟩ := hz
 cases hz
 obtain ⟨a0, e0, w0⟩ := int_cell Try.underlying5 t0
 cases e0
 obtain ⟨a1, e1, w1⟩ := int_cell Try.underlying5 t1
 cases e1
 obtain ⟨a2, e2, w2⟩ := int_cell Try.underlying5 t2
 cases e2
 obtain ⟨a3, e3, w3⟩ := int_cell Try.underlying22 t3
 cases e3
 obtain ⟨a4, e4, w4⟩ := int_cell Try.underlying5 t4
 cases e4
 obtain ⟨a5, e5, w5⟩ := string_cell Try.underlying9 t5
 cases e5
 obtain ⟨a6, l6, c6, e6, r6, nn6, m6, o6⟩ := legs_cell_v t6
 subst e6
 obtain ⟨a7, e7, w7⟩ := int_cell Try.underlying2 t7
 cases e7
 obtain ⟨a8, l8, c8, e8, r8, nn8, m8, o8⟩ := taxes_cell_v t8
 subst e8
 obtain ⟨a9, e9, w9⟩ := int_cell Try.underlying2 t9
 cases e9
 obtain ⟨a10, e10, w10⟩ := int_cell Try.underlying2 t10
 cases e10
 obtain ⟨a11, e11, w11⟩ := int_cell Try.underlying5 t11
 cases e11
 obtain ⟨a12, e12, w12⟩ := int_cell Try.underlying22 t12
 cases e12
 obtain ⟨a13, e13, w13⟩ := int_cell Try.underlying5 t13
 cases e13
 obtain ⟨a14, e14, w14⟩ := int_cell Try.underlying5 t14
 cases e14
 obtain ⟨a15, e15, w15⟩ := int_cell Try.underlying22 t15
 cases e15
 obtain ⟨a16, e16, w16⟩ := int_cell Try.underlying5 t16
 cases e16
 obtain ⟨a17, e17, w17⟩ := int_cell Try.underlying5 t17
 cases e17
 obtain ⟨a18, e18, w18⟩ := int_cell Try.underlying33 t18
 cases e18
 obtain ⟨a19, e19, w19⟩ := int_cell Try.underlying34 t19
 cases e19
 obtain ⟨a20, e20, w20⟩ := int_cell Try.underlying2 t20
 cases e20
 obtain ⟨a21, e21, w21⟩ := int_cell Try.underlying37 t21
 cases e21
 obtain ⟨a22, e22, w22⟩ := int_cell Try.underlying34 t22
 cases e22
 obtain ⟨a23, e23, w23⟩ := int_cell Try.underlying2 t23
 cases e23
 obtain ⟨a24, e24, w24⟩ := int_cell Try.underlying40 t24
 cases e24
 exact ⟨⟨a0, ⟨a1, ⟨a2, a3⟩, a4, a5, l6, a7, l8, a9, a10⟩, a11, a12, ⟨a13, ⟨a14, a15⟩, a16, ⟨a17, a18, a19⟩, a20, a21, a22, a23, a24⟩⟩, a6, a8, c6, c8, rfl, r6, r8, ⟨wf_u8 w0, ⟨wf_u8 w1, ⟨wf_u8 w2, wf_u64 w3⟩, wf_u8 w4, w5, m6, o6, wf_i64 w7, m8, o8, wf_i64 w9, wf_i64 w10⟩, wf_u8 w11, wf_u64 w12, ⟨wf_u8 w13, ⟨wf_u8 w14, wf_u64 w15⟩, wf_u8 w16, ⟨wf_u8 w17, wf_u16 w18, wf_u32 w19⟩, wf_i64 w20, wf_u8 w21, wf_u32 w22, wf_i64 w23, wf_i64 w24⟩⟩⟩
end Go.Proofs.Ytfcjmpgbohgoeaa
