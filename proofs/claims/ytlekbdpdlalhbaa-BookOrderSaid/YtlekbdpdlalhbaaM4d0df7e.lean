/- OpB, Bw, Bs1, Or0, Or1. -/
import Derived.Test.YtlekbdpdlalhbaaM7a8b6b1
import Derived.Test.YtlekbdpdlalhbaaM467ed32
import Derived.Test.YtlekbdpdlalhbaaM18b6b0c
section
namespace Go.Proofs.Ytlekbdpdlalhbaa
set_option maxRecDepth 100000
open Go.RowKit Go.Lib Go.Tk Go.Shelf Go.Vc Go.Sx Go.WideShapes
set_option linter.unusedVariables false
set_option linter.unusedSimpArgs false

structure Act15 where
  d : Int
  s : SaleV
  A : SaleA
  dv : DocV
  da : DocA
  k : Kid
  o : OwnV
  h : HeldV
def saleC (s : SaleV) (A : SaleA) : List Value := [.string s.name, .slice A.la s.legs.length A.lc, .int .i64 s.fare, .slice A.ta s.taxes.length A.tc, .int .i64 s.pen]
def act15C (x : Act15) : List Value := [.int .i64 x.d] ++ (saleC x.s x.A ++ (docL (x.dv, x.da) ++ (kidC x.k ++ (ownL x.o ++ heldL x.h))))
def I64Ok (v : Int) : Prop := -9223372036854775808 ≤ v ∧ v ≤ 9223372036854775807
structure Act15In (w : World) (x : Act15) : Prop where
  at_ : SaleAt w x.s x.A
  ok : SaleW x.s
  da : SaleAt w x.dv.s ⟨x.da.la, x.da.lc, x.da.ta, x.da.tc⟩
  dok : SaleW x.dv.s
  dv : Row w x.da.va (x.dv.vals.map (.int .i64))
  dvn : x.da.va = none → x.da.vc = 0
  dvm : x.dv.vals.length ≤ maxLen
  dt : TidOk x.dv.t
  k : KidOk x.k
  ov : I64Ok x.o.k.v
  os : 0 ≤ x.o.k.s ∧ x.o.k.s ≤ 255
  ot : 0 ≤ x.o.dst ∧ x.o.dst ≤ 255
  hv : I64Ok x.h.k.v
section
variable {H : Type} {enc : TypeId × Value → H} {w : World} {base : Nat} {spare : Nat → Bool} {held : Bool}
theorem FlatAs.split : ∀ {ts us : List TypeId} {cs : List Value}, FlatAs enc Try.prog w base spare held (ts ++ us) cs → ∃ a b, cs = a ++ b ∧ FlatAs enc Try.prog w base spare held ts a ∧ FlatAs enc Try.prog w base spare held us b
  | [], us, cs, h => ⟨[], cs, rfl, rfl, h⟩
  | t :: ts, us, cs, ⟨v, cs', e, hv, h⟩ => by
    obtain ⟨a, b, h1, ha, hb⟩ := FlatAs.split h
    subst h1
    subst e
    exact ⟨v :: a, b, rfl, ⟨v, a, rfl, hv, ha⟩, hb⟩
theorem ints15_cell {n : Nat} {v : Value} {y : DataW H × List MemPlace} (h : DataW.trod enc Try.prog w base spare held n 36 [v] = some y) :
    ∃ (a : Option Addr) (l : List Int) (c : Nat), v = .slice a l.length c ∧ Row w a (l.map (.int .i64)) ∧ (a = none → c = 0) ∧ l.length ≤ maxLen ∧ ∀ x ∈ l, (Lit.int .i64 x).wf = true := by
  obtain ⟨a, len, cap, rows, rfl, hlen, hrows, hr, hn, hm, _⟩ := slice_rows (fun cs => ∃ x : Int, [.int .i64 x] = cs ∧ (Lit.int .i64 x).wf = true) Try.underlying36 (show Try.prog.cellsOf 2 = 1 by kernel_rfl) (by decide) (fun n cs y hl h => by obtain ⟨x, e, w⟩ := int_cell Try.underlying2 h; exact ⟨x, e.symm, w⟩) h
  obtain ⟨l, hl⟩ := listOf (enc := fun x : { x : Int // (Lit.int .i64 x).wf = true } => [Value.int .i64 x.1]) (Q := fun cs => ∃ x : Int, [Value.int .i64 x] = cs ∧ (Lit.int .i64 x).wf = true) (fun r ⟨x, hx, hk⟩ => ⟨⟨x, hk⟩, hx⟩) rows (fun r hr => (hrows r hr).2)
  have hl2 : (l.map (·.1)).map (fun x => [Value.int .i64 x]) = rows := by rw [List.map_map]; exact hl
  have hl3 : (l.map (·.1)).length = len := by rw [← hlen, ← hl2]; simp
  have hl4 : rows.flatten = (l.map (·.1)).map (.int .i64) := by
    rw [← hl2]
    generalize l.map (·.1) = z
    induction z with
    | nil => rfl
    | cons x r ih => simp [ih]
  refine ⟨a, l.map (·.1), cap, by rw [hl3], ?_, hn, by rw [hl3]; exact hm, fun x hx => ?_⟩
  · rw [← hl4]; exact hr
  · obtain ⟨z, _, rfl⟩ := List.mem_map.1 hx; exact z.2
theorem sale_of {cs : List Value} (h : FlatAs enc Try.prog w base spare held [9, 29, 2, 30, 2] cs) : ∃ s A, saleC s A = cs ∧ SaleAt w s A ∧ SaleW s := by
  obtain ⟨v0, _, rfl, ⟨n0, y0, h0⟩, v1, _, rfl, ⟨n1, y1, h1⟩, v2, _, rfl, ⟨n2, y2, h2⟩, v3, _, rfl, ⟨n3, y3, h3⟩, v4, _, rfl, ⟨n4, y4, h4⟩, rfl⟩ := h
  obtain ⟨a0, e0, w0⟩ := string_cell Try.underlying9 h0
  cases e0
  obtain ⟨b1, a1, c1, e1, r1, i1, m1, o1⟩ := legs_cell h1
  cases e1
  obtain ⟨a2, e2, w2⟩ := int_cell Try.underlying2 h2
  cases e2
  obtain ⟨b3, a3, c3, e3, r3, i3, m3, o3⟩ := taxes_cell h3
  cases e3
  obtain ⟨a4, e4, w4⟩ := int_cell Try.underlying2 h4
  cases e4
  exact ⟨⟨a0, a1, a2, a3, a4⟩, ⟨b1, c1, b3, c3⟩, rfl, ⟨r1, r3, i1, i3⟩, ⟨w0, o1, o3, wfi64 w2, wfi64 w4, m1, m3⟩⟩
theorem tid_of {cs : List Value} (h : FlatAs enc Try.prog w base spare held [5, 28] cs) : ∃ t : Tid, [Value.int .u8 t.c, .int .u64 t.r] = cs ∧ TidOk t := by
  obtain ⟨v0, _, rfl, ⟨n0, y0, h0⟩, v1, _, rfl, ⟨n1, y1, h1⟩, rfl⟩ := h
  obtain ⟨a0, e0, w0⟩ := int_cell Try.underlying5 h0
  cases e0
  obtain ⟨a1, e1, w1⟩ := int_cell Try.underlying28 h1
  cases e1
  exact ⟨⟨a0, a1⟩, rfl, wfu8 w0, wfu64 w1⟩
theorem own_of {cs : List Value} (h : FlatAs enc Try.prog w base spare held [5, 44, 45, 2, 48, 45, 4, 5, 4, 4] cs) : ∃ o : OwnV, ownL o = cs ∧ I64Ok o.k.v ∧ (0 ≤ o.k.s ∧ o.k.s ≤ 255) ∧ 0 ≤ o.dst ∧ o.dst ≤ 255 := by
  obtain ⟨v0, _, rfl, ⟨n0, y0, h0⟩, v1, _, rfl, ⟨n1, y1, h1⟩, v2, _, rfl, ⟨n2, y2, h2⟩, v3, _, rfl, ⟨n3, y3, h3⟩, v4, _, rfl, ⟨n4, y4, h4⟩, v5, _, rfl, ⟨n5, y5, h5⟩, v6, _, rfl, ⟨n6, y6, h6⟩, v7, _, rfl, ⟨n7, y7, h7⟩, v8, _, rfl, ⟨n8, y8, h8⟩, v9, _, rfl, ⟨n9, y9, h9⟩, rfl⟩ := h
  obtain ⟨a0, e0, w0⟩ := int_cell Try.underlying5 h0
  cases e0
  obtain ⟨a1, e1, w1⟩ := int_cell Try.underlying44 h1
  cases e1
  obtain ⟨a2, e2, w2⟩ := int_cell Try.underlying45 h2
  cases e2
  obtain ⟨a3, e3, w3⟩ := int_cell Try.underlying2 h3
  cases e3
  obtain ⟨a4, e4, w4⟩ := int_cell Try.underlying48 h4
  cases e4
  obtain ⟨a5, e5, w5⟩ := int_cell Try.underlying45 h5
  cases e5
  obtain ⟨a6, e6⟩ := bool_cell Try.underlying4 h6
  cases e6
  obtain ⟨a7, e7, w7⟩ := int_cell Try.underlying5 h7
  cases e7
  obtain ⟨a8, e8⟩ := bool_cell Try.underlying4 h8
  cases e8
  obtain ⟨a9, e9⟩ := bool_cell Try.underlying4 h9
  cases e9
  exact ⟨⟨⟨⟨a0, a1, a2⟩, a3, a4, a5⟩, a6, a7, a8, a9⟩, rfl, wfi64 w3, wfu8 w4, wfu8 w7⟩
theorem held_of {cs : List Value} (h : FlatAs enc Try.prog w base spare held [5, 44, 45, 2, 48, 45, 4, 4, 4, 4] cs) : ∃ o : HeldV, heldL o = cs ∧ I64Ok o.k.v := by
  obtain ⟨v0, _, rfl, ⟨n0, y0, h0⟩, v1, _, rfl, ⟨n1, y1, h1⟩, v2, _, rfl, ⟨n2, y2, h2⟩, v3, _, rfl, ⟨n3, y3, h3⟩, v4, _, rfl, ⟨n4, y4, h4⟩, v5, _, rfl, ⟨n5, y5, h5⟩, v6, _, rfl, ⟨n6, y6, h6⟩, v7, _, rfl, ⟨n7, y7, h7⟩, v8, _, rfl, ⟨n8, y8, h8⟩, v9, _, rfl, ⟨n9, y9, h9⟩, rfl⟩ := h
  obtain ⟨a0, e0, w0⟩ := int_cell Try.underlying5 h0
  cases e0
  obtain ⟨a1, e1, w1⟩ := int_cell Try.underlying44 h1
  cases e1
  obtain ⟨a2, e2, w2⟩ := int_cell Try.underlying45 h2
  cases e2
  obtain ⟨a3, e3, w3⟩ := int_cell Try.underlying2 h3
  cases e3
  obtain ⟨a4, e4, w4⟩ := int_cell Try.underlying48 h4
  cases e4
  obtain ⟨a5, e5, w5⟩ := int_cell Try.underlying45 h5
  cases e5
  obtain ⟨a6, e6⟩ := bool_cell Try.underlying4 h6
  cases e6
  obtain ⟨a7, e7⟩ := bool_cell Try.underlying4 h7
  cases e7
  obtain ⟨a8, e8⟩ := bool_cell Try.underlying4 h8
  cases e8
  obtain ⟨a9, e9⟩ := bool_cell Try.underlying4 h9
  cases e9
  exact ⟨⟨⟨⟨a0, a1, a2⟩, a3, a4, a5⟩, a6, a7, a8, a9⟩, rfl, wfi64 w3⟩
theorem five_of {cs : List Value} (h : FlatAs enc Try.prog w base spare held [2, 2, 2, 2, 2] cs) : ∃ a b c d e : Int, [Value.int .i64 a, .int .i64 b, .int .i64 c, .int .i64 d, .int .i64 e] = cs := by
  obtain ⟨v0, _, rfl, ⟨n0, y0, h0⟩, v1, _, rfl, ⟨n1, y1, h1⟩, v2, _, rfl, ⟨n2, y2, h2⟩, v3, _, rfl, ⟨n3, y3, h3⟩, v4, _, rfl, ⟨n4, y4, h4⟩, rfl⟩ := h
  obtain ⟨a0, e0, w0⟩ := int_cell Try.underlying2 h0
  cases e0
  obtain ⟨a1, e1, w1⟩ := int_cell Try.underlying2 h1
  cases e1
  obtain ⟨a2, e2, w2⟩ := int_cell Try.underlying2 h2
  cases e2
  obtain ⟨a3, e3, w3⟩ := int_cell Try.underlying2 h3
  cases e3
  obtain ⟨a4, e4, w4⟩ := int_cell Try.underlying2 h4
  cases e4
  exact ⟨a0, a1, a2, a3, a4, rfl⟩
theorem vals_of {cs : List Value} (h : FlatAs enc Try.prog w base spare held [36] cs) : ∃ (a : Option Addr) (l : List Int) (c : Nat), [Value.slice a l.length c] = cs ∧ Row w a (l.map (.int .i64)) ∧ (a = none → c = 0) ∧ l.length ≤ maxLen := by
  obtain ⟨v0, _, rfl, ⟨n0, y0, h0⟩, rfl⟩ := h
  obtain ⟨b0, a0, c0, e0, r0, i0, m0, o0⟩ := ints15_cell h0
  cases e0
  exact ⟨b0, a0, c0, rfl, r0, i0, m0⟩
theorem do_of {cs : List Value} (h : FlatAs enc Try.prog w base spare held [3] cs) : ∃ a : Int, [Value.int .i64 a] = cs := by
  obtain ⟨v0, _, rfl, ⟨n0, y0, h0⟩, rfl⟩ := h
  obtain ⟨a0, e0, w0⟩ := int_cell Try.underlying3 h0
  cases e0
  exact ⟨a0, rfl⟩
def docTs : List TypeId := [5, 28] ++ ([9, 29, 2, 30, 2] ++ ([36] ++ ([5, 28] ++ ([5, 28] ++ [2, 2, 2, 2, 2]))))
def act15Ts : List TypeId := [3] ++ ([9, 29, 2, 30, 2] ++ (docTs ++ ([5, 28, 5] ++ ([5, 44, 45, 2, 48, 45, 4, 5, 4, 4] ++ [5, 44, 45, 2, 48, 45, 4, 4, 4, 4]))))
theorem doc_of {cs : List Value} (h : FlatAs enc Try.prog w base spare held docTs cs) : ∃ (d : DocV) (a : DocA), docL (d, a) = cs ∧ TidOk d.t ∧ SaleAt w d.s ⟨a.la, a.lc, a.ta, a.tc⟩ ∧ SaleW d.s ∧ Row w a.va (d.vals.map (.int .i64)) ∧ (a.va = none → a.vc = 0) ∧ d.vals.length ≤ maxLen := by
  obtain ⟨x1, r1, e1, h1, g1⟩ := FlatAs.split h
  obtain ⟨x2, r2, e2, h2, g2⟩ := FlatAs.split g1
  obtain ⟨x3, r3, e3, h3, g3⟩ := FlatAs.split g2
  obtain ⟨x4, r4, e4, h4, g4⟩ := FlatAs.split g3
  obtain ⟨x5, x6, e5, h5, h6⟩ := FlatAs.split g4
  obtain ⟨t, f1, t1⟩ := tid_of h1
  obtain ⟨s, A, f2, s1, s2⟩ := sale_of h2
  obtain ⟨va, l, vc, f3, v1, v2, v3⟩ := vals_of h3
  obtain ⟨fr, f4, -⟩ := tid_of h4
  obtain ⟨ds, f5, -⟩ := tid_of h5
  obtain ⟨q1, q2, q3, q4, q5, f6⟩ := five_of h6
  refine ⟨⟨t, s, l, fr, ds, q1, q2, q3, q4, q5⟩, ⟨A.la, A.lc, A.ta, A.tc, va, vc⟩, ?_, t1, s1, s2, v1, v2, v3⟩
  rw [e1, e2, e3, e4, e5, ← f1, ← f2, ← f3, ← f4, ← f5, ← f6]
  rfl
theorem act15_of {cs : List Value} (h : FlatAs enc Try.prog w base spare held act15Ts cs) : ∃ x : Act15, act15C x = cs ∧ Act15In w x := by
  obtain ⟨x1, r1, e1, h1, g1⟩ := FlatAs.split h
  obtain ⟨x2, r2, e2, h2, g2⟩ := FlatAs.split g1
  obtain ⟨x3, r3, e3, h3, g3⟩ := FlatAs.split g2
  obtain ⟨x4, r4, e4, h4, g4⟩ := FlatAs.split g3
  obtain ⟨x5, x6, e5, h5, h6⟩ := FlatAs.split g4
  obtain ⟨d, f1⟩ := do_of h1
  obtain ⟨s, A, f2, s1, s2⟩ := sale_of h2
  obtain ⟨dv, da, f3, d1, d2, d3, d4, d5, d6⟩ := doc_of h3
  obtain ⟨k, f4, k1⟩ := kid_of h4
  obtain ⟨o, f5, o1, o2, o3⟩ := own_of h5
  obtain ⟨hh, f6, hh1⟩ := held_of h6
  refine ⟨⟨d, s, A, dv, da, k, o, hh⟩, ?_, ⟨s1, s2, d2, d3, d4, d5, d6, d1, k1, o1, o2, o3, hh1⟩⟩
  rw [e1, e2, e3, e4, e5, ← f1, ← f2, ← f3, ← f4, ← f5, ← f6]
  rfl
theorem act15_flat : flatT Try.prog 6 66 = some act15Ts := by kernel_rfl
theorem acts15_cell {n : Nat} {v : Value} {y : DataW H × List MemPlace} (h : DataW.trod enc Try.prog w base spare held n 62 [v] = some y) :
    ∃ (a : Option Addr) (l : List Act15) (c : Nat), v = .slice a l.length c ∧ Row w a (cellsL act15C l) ∧ (a = none → c = 0) ∧ l.length ≤ maxLen ∧ ∀ x ∈ l, Act15In w x := by
  obtain ⟨a, len, cap, rows, rfl, hlen, hrows, hr, hn, hm, _⟩ := slice_rows (fun cs => ∃ l : Act15, act15C l = cs ∧ Act15In w l) Try.underlying62 (show Try.prog.cellsOf 66 = 46 by kernel_rfl) (by decide)
    (fun n cs y hl h => act15_of (flat_of 6 _ _ act15_flat n cs y h (by rw [hl]; kernel_rfl))) h
  obtain ⟨l, hl⟩ := listOf (enc := fun x : { x : Act15 // Act15In w x } => act15C x.1) (Q := fun cs => ∃ l : Act15, act15C l = cs ∧ Act15In w l) (fun r ⟨x, hx, hk⟩ => ⟨⟨x, hk⟩, hx⟩) rows (fun r hr => (hrows r hr).2)
  have hl2 : (l.map (·.1)).map act15C = rows := by rw [List.map_map]; exact hl
  have hl3 : (l.map (·.1)).length = len := by rw [← hlen, ← hl2]; simp
  refine ⟨a, l.map (·.1), cap, by rw [hl3], ?_, hn, by rw [hl3]; exact hm, fun x hx => ?_⟩
  · unfold cellsL; rw [hl2]; exact hr
  · obtain ⟨z, _, rfl⟩ := List.mem_map.1 hx; exact z.2
/-- a struct of that type alone -/
theorem open_act15 {r : Reach} {b0 : Nat} {v : Value} {d : DataW H} {p : List MemPlace} (hv : Value.okWide Try.prog w r b0 66 v) (h : DataW.Trod enc Try.prog w base spare held 66 v d p) :
    ∃ x : Act15, v = .agg (act15C x).toArray ∧ Act15In w x := by
  obtain ⟨cs, rfl, hf⟩ := flat_open 6 Try.underlying66 act15_flat hv h
  obtain ⟨x, rfl, ok⟩ := act15_of hf
  exact ⟨x, rfl, ok⟩
end
end Go.Proofs.Ytlekbdpdlalhbaa
end
section
namespace Go.Proofs.Ytlekbdpdlalhbaa
set_option maxRecDepth 100000
open Go.RowKit Go.Lib Go.Tk Go.Shelf Go.Vc Go.Sx
set_option linter.unusedVariables false
set_option linter.unusedSimpArgs false

def sale15 : SaleV := ⟨⟨#[68, 79, 69, 47, 74]⟩, [⟨1, 0, 1⟩, ⟨0, 0, 1⟩], 101, [], 20⟩
theorem sale15_ok : SaleOk sale15 where
  name := by unfold maxLen; show (5 : Nat) ≤ _; decide
  legs := by intro l hl; simp [sale15] at hl; rcases hl with rfl | rfl <;> (unfold LegOk; decide)
  taxes := by intro t ht; cases ht
  fare := by decide
  pen := by decide
  nl := by decide
  nt := by decide
def t15 : Tid := ⟨1, 1⟩
def C15 : BookV := ⟨1, 3, [⟨t15, sale15, [51, 50], ⟨0, 0⟩, ⟨0, 0⟩, 0, 101, 0, 0, 0⟩], [(⟨t15, 0⟩, ownNew ⟨1, 0, 1⟩ 51), (⟨t15, 1⟩, ownNew ⟨0, 0, 1⟩ 50)], []⟩
theorem sort_15 : Go.Tk.sortL (restsL 101 2 [1, 1]) = [(1, 0), (1, 1)] := by
  refine (sortL_unique ?_ ?_).symm
  · decide
  · decide
theorem share_15 : shareV 101 [1, 1] = [51, 50] := by
  have e : shareE 101 [1, 1] = 0 := by decide
  unfold shareV
  rw [if_pos e]
  unfold shareL chosen
  have hs : ([1, 1] : List Int).sum = 2 := by decide
  rw [hs, sort_15]
  decide
theorem share15 : shareV sale15.fare (wsOf sale15) = [51, 50] := share_15
theorem iss15 : (bookNew 1 3).issued sale15 = C15 := by unfold BookV.issued docMade; rw [share15]; rfl
def k15 : Kid := ⟨⟨0, 7⟩, 0⟩
def C15b : BookV := { C15 with helds := [(k15, { held0 with wanted := true })] }
def Known15F : Nat := 19
def WakesF15 : Nat := 5
theorem known15_w : CallOK Try.prog Known15F [] [] [] (.agg (salS sale15 (.raw 1 0) nilS)) [((1, 0), legD 2 sale15.legs)] := callOK_run 400 [] (by kernel_rfl) (by kernel_rfl)
theorem wakes15_w : CallOK Try.prog WakesF15 [] [] [] (.val (.bool true)) [] := by
  have n1 := new_okC (self := 1) (n := 3) (by decide) (by decide)
  have n3 := known15_w
  have n4 := issue_okR (book_new_ok 1 3 (by decide)) sale15_ok (by kernel_rfl)
  rw [iss15] at n4
  have c1 := own_c C15 (k := ⟨t15, 1⟩) ⟨⟨by decide, by decide⟩, by decide, by decide⟩
  rw [show lkt C15.owns ⟨t15, 1⟩ = some (ownNew ⟨0, 0, 1⟩ 50) from rfl] at c1
  have c2 := own_c C15 (k := ⟨t15, 2⟩) ⟨⟨by decide, by decide⟩, by decide, by decide⟩
  rw [show lkt C15.owns ⟨t15, 2⟩ = none from rfl] at c2
  have c3 := setHeld_c C15 (k := k15) ⟨⟨by decide, by decide⟩, by decide, by decide⟩ { held0 with wanted := true }
  rw [show C15.setHE k15 = 0 by kernel_rfl, show C15.setH k15 { held0 with wanted := true } = C15b from rfl] at c3
  have c4 := open_c C15b 0 (by show (2 : Nat) ≤ 1000; decide) (by show (1 : Nat) ≤ 1000; decide)
  rw [show openN C15b 0 = 1 from rfl] at c4
  have c5 := setHeld_c C15b (k := ⟨t15, 0⟩) ⟨⟨by decide, by decide⟩, by decide, by decide⟩ held0
  rw [show C15b.setHE ⟨t15, 0⟩ = 1 by kernel_rfl, show C15b.setH ⟨t15, 0⟩ held0 = C15b from rfl] at c5
  exact callOK_run 900 [hC 1 0 n1, hC 4 1 n3, hC 4 2 n4, hC 5 4 c1, hC 6 4 c2, hC 8 3 c3, hC 9 34 c4, hC 9 43 c5] (by kernel_rfl) (by kernel_rfl)
end Go.Proofs.Ytlekbdpdlalhbaa
end
section
namespace Go.Proofs.Ytlekbdpdlalhbaa
set_option maxRecDepth 100000
open Go.RowKit Go.Lib Go.Tk Go.Shelf Go.Vc Go.Sx
set_option linter.unusedVariables false
set_option linter.unusedSimpArgs false

theorem load_openG3 {P : Program} {t k j : Nat} {F : Nat → Value → Chunk} {a : Option Addr} {xs : List Value} {cs : List SV} {u : SV} (q1 q2 q3 : Nat) (hu : Go.Sx.partAt P t cs (q1 + q2 + q3) = some u) (hR : ∀ b v, Rd (F b v) a xs) (hc : ∀ ε i v, cs[i]? = some v → xs[k + i]? = some (v.den ε)) (h0 : 0 < xs.length) :
    OpG P (isLoad t) loadX [.val (.pointer (some (((((a.getD ⟨0, 0, none⟩).add k).add q1).add q2).add q3)))] [((0, j), .fam F)] [] u [] := by
  have := load_openG (j := j) (q1 + q2 + q3) hu hR hc h0
  have e : ∀ x : Addr, ((x.add q1).add q2).add q3 = x.add (q1 + q2 + q3) := fun x => by
    by_cases hk : q1 = 0 <;> by_cases hj : q2 = 0 <;> by_cases hl : q3 = 0 <;> simp [Addr.add, hk, hj, hl, Nat.add_assoc]
  rw [e]
  exact this
def Great15F : Nat := 15
def AT15 : TypeId := 62
def act15X (x : Act15) : List SV := .val (.int .i64 x.d) :: .val (.string x.s.name) :: .val (.slice x.A.la x.s.legs.length x.A.lc) :: .val (.int .i64 x.s.fare) :: .val (.slice x.A.ta x.s.taxes.length x.A.tc) :: .val (.int .i64 x.s.pen) :: (docSA x.dv x.da ++ (kidS x.k ++ (ownS x.o ++ heldS x.h)))
def act15Z : Act15 := ⟨0, ⟨⟨#[]⟩, [], 0, [], 0⟩, ⟨none, 0, none, 0⟩, doc0, docA0, kid0, own0, held0⟩
theorem act15X_den (x : Act15) (ε : Env) : SV.dens ε (act15X x) = act15C x := rfl
theorem act15_nth {acts : List Act15} {i : Nat} (h : i < acts.length) : ∀ (ε : Env) (q : Nat) (v : SV), (act15X (acts.getD i act15Z))[q]? = some v → (cellsL act15C acts)[i * 46 + q]? = some (v.den ε) :=
  cells_nth (enc := act15C) (encS := act15X) act15X_den (fun _ => rfl) (getD_some h act15Z)
theorem acts15_len (acts : List Act15) : (cellsL act15C acts).length = acts.length * 46 := cellsL_len (enc := act15C) (size := 46) (fun _ => rfl) acts
def greatX (x : Act15) : Bool := decide ((20 : Int) < (x.s.legs.length : Int)) || (decide ((20 : Int) < (x.s.taxes.length : Int)) || (decide ((200 : Int) < (x.s.name.size : Int)) || (decide ((20 : Int) < (x.dv.vals.length : Int)) || (decide ((20 : Int) < (x.dv.s.legs.length : Int)) || (decide ((20 : Int) < (x.dv.s.taxes.length : Int)) || decide ((200 : Int) < (x.dv.s.name.size : Int)))))))
def greatB15 (acts : List Act15) : Bool := decide ((150 : Int) < (acts.length : Int)) || acts.any greatX
structure Lens (x : Act15) : Prop where
  a : x.s.legs.length ≤ 9223372036854775807
  b : x.s.taxes.length ≤ 9223372036854775807
  c : x.s.name.size ≤ 9223372036854775807
  d : x.dv.vals.length ≤ 9223372036854775807
  e : x.dv.s.legs.length ≤ 9223372036854775807
  f : x.dv.s.taxes.length ≤ 9223372036854775807
  g : x.dv.s.name.size ≤ 9223372036854775807
theorem great15_w (F : CF) {a : Option Addr} {cap : Nat} {acts : List Act15} (hR : ∀ b v, Rd (F b v) a (cellsL act15C acts)) (hl : acts.length ≤ 9223372036854775807) (hf : ∀ x ∈ acts, Lens x) :
    CallOK Try.prog Great15F [.val (.slice a acts.length cap)] [((0, 9), .fam F)] [] (.val (.bool (greatB15 acts))) [] := by
  rcases Bool.eq_false_or_eq_true (decide ((150 : Int) < (acts.length : Int))) with g | g
  · rw [show greatB15 acts = true by unfold greatB15; rw [g]; rfl]
    exact callOK_run 400 [hB 1 2 _ _ g] (by kernel_rfl) (by kernel_rfl)
  have hl150 : acts.length ≤ 150 := by have := of_decide_eq_false g; omega
  refine callOK_intro (by kernel_rfl) fun eb R => ?_
  refine go_loop (X := { i : Nat // i ≤ acts.length ∧ ∀ j, j < i → greatX (acts.getD j act15Z) = false }) 0 [] (fun x => ([(0, .val (.slice a acts.length cap)), (3, .val (.int .i64 (x.1 : Int)))], [((0, 9), .fam F)])) (fun x => acts.length - x.1) ⟨0, Nat.zero_le _, fun j hj => absurd hj (Nat.not_lt_zero _)⟩ calNone false 400 [hB 1 2 _ _ g] calNone_ok (by kernel_rfl) ?_
  rintro ⟨i, hi, hd⟩ J hJ
  by_cases h : i < acts.length
  · have hin : acts.getD i act15Z ∈ acts := List.mem_of_getElem? (getD_some h act15Z)
    obtain ⟨b1, b2, b3, b4, b5, b6, b7⟩ := hf _ hin
    have q0 : decide ((i : Int) < (acts.length : Int)) = true := decide_eq_true (by omega)
    have q1 := idx_openG (P := Try.prog) (t := AT15) (e := 66) (size := 46) (j := 9) (k := .i64) (cap := cap) (n := acts.length) Try.underlying62 (by kernel_rfl) (acts15_len acts) hR h
    have hpos : 0 < (cellsL act15C acts).length := by rw [acts15_len]; omega
    have nth := act15_nth h
    have q2 := load_openG2 (P := Try.prog) (t := 29) (k := i * 46) (j := 9) (u := .val (.slice (acts.getD i act15Z).A.la (acts.getD i act15Z).s.legs.length (acts.getD i act15Z).A.lc)) 1 1 (by kernel_rfl) hR nth hpos
    have q3 := load_openG2 (P := Try.prog) (t := 30) (k := i * 46) (j := 9) (u := .val (.slice (acts.getD i act15Z).A.ta (acts.getD i act15Z).s.taxes.length (acts.getD i act15Z).A.tc)) 1 3 (by kernel_rfl) hR nth hpos
    have q4 := load_openG2 (P := Try.prog) (t := 9) (k := i * 46) (j := 9) (u := .val (.string (acts.getD i act15Z).s.name)) 1 0 (by kernel_rfl) hR nth hpos
    have q5 := load_openG2 (P := Try.prog) (t := 36) (k := i * 46) (j := 9) (u := .val (.slice (acts.getD i act15Z).da.va (acts.getD i act15Z).dv.vals.length (acts.getD i act15Z).da.vc)) 6 7 (by kernel_rfl) hR nth hpos
    have q6 := load_openG3 (P := Try.prog) (t := 29) (k := i * 46) (j := 9) (u := .val (.slice (acts.getD i act15Z).da.la (acts.getD i act15Z).dv.s.legs.length (acts.getD i act15Z).da.lc)) 6 2 1 (by kernel_rfl) hR nth hpos
    have q7 := load_openG3 (P := Try.prog) (t := 30) (k := i * 46) (j := 9) (u := .val (.slice (acts.getD i act15Z).da.ta (acts.getD i act15Z).dv.s.taxes.length (acts.getD i act15Z).da.tc)) 6 2 3 (by kernel_rfl) hR nth hpos
    have q8 := load_openG3 (P := Try.prog) (t := 9) (k := i * 46) (j := 9) (u := .val (.string (acts.getD i act15Z).dv.s.name)) 6 2 0 (by kernel_rfl) hR nth hpos
    have q9 : IntKind.i64.wrap ((i : Int) + 1) = ((i + 1 : Nat) : Int) := by rw [wr_i64 (by omega)]; omega
    have bad : greatX (acts.getD i act15Z) = true → greatB15 acts = true := fun e => by
      unfold greatB15
      rw [List.any_eq_true.2 ⟨_, hin, e⟩, Bool.or_true]
    have good : greatX (acts.getD i act15Z) = false → ∀ j, j < i + 1 → greatX (acts.getD j act15Z) = false := fun e j hj => by
      by_cases q : j = i
      · subst q; exact e
      · exact hd j (by omega)
    generalize hx : acts.getD i act15Z = x at *
    rcases Bool.eq_false_or_eq_true (decide ((20 : Int) < (x.s.legs.length : Int))) with g1 | g1
    · rw [bad (by unfold greatX; rw [g1]; rfl)]
      exact leaf_end calNone false 400 [hB 4 3 _ _ q0, hG 6 2 q1, hG 6 5 q2, hB 6 7 _ _ g1] calNone_ok (by kernel_rfl)
    rcases Bool.eq_false_or_eq_true (decide ((20 : Int) < (x.s.taxes.length : Int))) with g2 | g2
    · rw [bad (by unfold greatX; rw [g1, g2]; rfl)]
      exact leaf_end calNone false 400 [hB 4 3 _ _ q0, hG 6 2 q1, hG 6 5 q2, hB 6 7 _ _ g1, hG 6 11 q1, hG 6 14 q3, hB 6 16 _ _ g2] calNone_ok (by kernel_rfl)
    rcases Bool.eq_false_or_eq_true (decide ((200 : Int) < (x.s.name.size : Int))) with g3 | g3
    · rw [bad (by unfold greatX; rw [g1, g2, g3]; rfl)]
      exact leaf_end calNone false 400 [hB 4 3 _ _ q0, hG 6 2 q1, hG 6 5 q2, hB 6 7 _ _ g1, hG 6 11 q1, hG 6 14 q3, hB 6 16 _ _ g2, hG 6 21 q1, hG 6 24 q4, hB 6 26 _ _ g3] calNone_ok (by kernel_rfl)
    rcases Bool.eq_false_or_eq_true (decide ((20 : Int) < (x.dv.vals.length : Int))) with g4 | g4
    · rw [bad (by unfold greatX; rw [g1, g2, g3, g4]; rfl)]
      exact leaf_end calNone false 400 [hB 4 3 _ _ q0, hG 6 2 q1, hG 6 5 q2, hB 6 7 _ _ g1, hG 6 11 q1, hG 6 14 q3, hB 6 16 _ _ g2, hG 6 21 q1, hG 6 24 q4, hB 6 26 _ _ g3, hG 6 31 q1, hG 6 34 q5, hB 6 36 _ _ g4] calNone_ok (by kernel_rfl)
    rcases Bool.eq_false_or_eq_true (decide ((20 : Int) < (x.dv.s.legs.length : Int))) with g5 | g5
    · rw [bad (by unfold greatX; rw [g1, g2, g3, g4, g5]; rfl)]
      exact leaf_end calNone false 400 [hB 4 3 _ _ q0, hG 6 2 q1, hG 6 5 q2, hB 6 7 _ _ g1, hG 6 11 q1, hG 6 14 q3, hB 6 16 _ _ g2, hG 6 21 q1, hG 6 24 q4, hB 6 26 _ _ g3, hG 6 31 q1, hG 6 34 q5, hB 6 36 _ _ g4, hG 6 41 q1, hG 6 45 q6, hB 6 47 _ _ g5] calNone_ok (by kernel_rfl)
    rcases Bool.eq_false_or_eq_true (decide ((20 : Int) < (x.dv.s.taxes.length : Int))) with g6 | g6
    · rw [bad (by unfold greatX; rw [g1, g2, g3, g4, g5, g6]; rfl)]
      exact leaf_end calNone false 400 [hB 4 3 _ _ q0, hG 6 2 q1, hG 6 5 q2, hB 6 7 _ _ g1, hG 6 11 q1, hG 6 14 q3, hB 6 16 _ _ g2, hG 6 21 q1, hG 6 24 q4, hB 6 26 _ _ g3, hG 6 31 q1, hG 6 34 q5, hB 6 36 _ _ g4, hG 6 41 q1, hG 6 45 q6, hB 6 47 _ _ g5, hG 6 52 q1, hG 6 56 q7, hB 6 58 _ _ g6] calNone_ok (by kernel_rfl)
    rcases Bool.eq_false_or_eq_true (decide ((200 : Int) < (x.dv.s.name.size : Int))) with g7 | g7
    · rw [bad (by unfold greatX; rw [g1, g2, g3, g4, g5, g6, g7]; rfl)]
      exact leaf_end calNone false 400 [hB 4 3 _ _ q0, hG 6 2 q1, hG 6 5 q2, hB 6 7 _ _ g1, hG 6 11 q1, hG 6 14 q3, hB 6 16 _ _ g2, hG 6 21 q1, hG 6 24 q4, hB 6 26 _ _ g3, hG 6 31 q1, hG 6 34 q5, hB 6 36 _ _ g4, hG 6 41 q1, hG 6 45 q6, hB 6 47 _ _ g5, hG 6 52 q1, hG 6 56 q7, hB 6 58 _ _ g6, hG 6 63 q1, hG 6 67 q8, hB 6 69 _ _ g7] calNone_ok (by kernel_rfl)
    have gg : greatX x = false := by unfold greatX; rw [g1, g2, g3, g4, g5, g6, g7]; rfl
    have hJ' := hJ ⟨i + 1, h, good gg⟩ (by show _ - (i + 1) < _ - i; omega)
    exact leaf_next calNone false 400 [hB 4 3 _ _ q0, hG 6 2 q1, hG 6 5 q2, hB 6 7 _ _ g1, hG 6 11 q1, hG 6 14 q3, hB 6 16 _ _ g2, hG 6 21 q1, hG 6 24 q4, hB 6 26 _ _ g3, hG 6 31 q1, hG 6 34 q5, hB 6 36 _ _ g4, hG 6 41 q1, hG 6 45 q6, hB 6 47 _ _ g5, hG 6 52 q1, hG 6 56 q7, hB 6 58 _ _ g6, hG 6 63 q1, hG 6 67 q8, hB 6 69 _ _ g7, hI 5 1 IntKind.i64 _ _ q9] calNone_ok hJ' (by kernel_rfl)
  · have q0 : decide ((i : Int) < (acts.length : Int)) = false := decide_eq_false (by omega)
    have e : greatB15 acts = false := by
      unfold greatB15
      rw [g, Bool.false_or, List.any_eq_false]
      intro x hx
      obtain ⟨j, hj, rfl⟩ := List.getElem_of_mem hx
      have := hd j (by omega)
      rw [List.getD_eq_getElem?_getD, List.getElem?_eq_getElem hj] at this
      simpa using this
    rw [e]
    exact leaf_end calNone false 400 [hB 4 3 _ _ q0] calNone_ok (by kernel_rfl)
theorem greatX_no {x : Act15} (h : greatX x = false) : x.s.legs.length ≤ 20 ∧ x.s.taxes.length ≤ 20 := by
  unfold greatX at h
  simp only [Bool.or_eq_false_iff, decide_eq_false_iff_not] at h
  omega
theorem greatB15_no {acts : List Act15} (h : greatB15 acts = false) : acts.length ≤ 150 ∧ ∀ x ∈ acts, x.s.legs.length ≤ 20 ∧ x.s.taxes.length ≤ 20 := by
  unfold greatB15 at h
  rw [Bool.or_eq_false_iff] at h
  refine ⟨by have := of_decide_eq_false h.1; omega, fun x hx => ?_⟩
  have := List.any_eq_false.1 h.2 x hx
  exact greatX_no (by simpa using this)
end Go.Proofs.Ytlekbdpdlalhbaa
end
section
namespace Go.Proofs.Ytlekbdpdlalhbaa
set_option maxRecDepth 100000
open Go.RowKit Go.Lib Go.Tk Go.Shelf Go.Vc Go.Sx
set_option linter.unusedVariables false
set_option linter.unusedSimpArgs false

/-- what is done -/
def step15 (B : BookV) (x : Act15) : BookV := if x.d = 0 then B.issue x.s else if x.d = 2 then B.setO x.k x.o else if x.d = 3 then B.setH x.k x.h else B
def run15 (B : BookV) (acts : List Act15) : Nat → BookV
  | 0 => B
  | i + 1 => step15 (run15 B acts i) (acts.getD i act15Z)
theorem BI.step {B : BookV} (h : BI B) {x : Act15} (ok : SaleOk x.s) (ho : OwnOk x.o) : BI (step15 B x) := by
  unfold step15
  by_cases g0 : x.d = 0
  · rw [if_pos g0]; exact h.issue ok
  rw [if_neg g0]
  by_cases g2 : x.d = 2
  · rw [if_pos g2]; exact h.setO ho
  rw [if_neg g2]
  by_cases g3 : x.d = 3
  · rw [if_pos g3]; exact h.setH _ _
  rw [if_neg g3]; exact h
structure Act15Rd (F : CF) (x : Act15) : Prop where
  ok : SaleOk x.s
  hl : ∀ b v, Rd (F b v) x.A.la (cellsL encLeg x.s.legs)
  ht : ∀ b v, Rd (F b v) x.A.ta (cellsL encTax x.s.taxes)
  h1 : SlOk x.A.la x.s.legs.length x.A.lc
  h2 : SlOk x.A.ta x.s.taxes.length x.A.tc
  k : KidOk x.k
  o : OwnOk x.o
theorem act15Rd_of {w : World} {x : Act15} (h : Act15In w x) (h1 : x.s.legs.length ≤ 1000) (h2 : x.s.taxes.length ≤ 1000) : Act15Rd (fun _ _ => oldC w) x where
  ok := h.ok.small h1 h2
  hl := fun _ _ => rd_old h.at_.legs
  ht := fun _ _ => rd_old h.at_.taxes
  h1 := slOk_row h.at_.legs (fun _ e => by rw [cellsL_len encLeg_len] at e; omega) h.at_.lnil
  h2 := slOk_row h.at_.taxes (fun _ e => by rw [encTaxL_len] at e; omega) h.at_.tnil
  k := h.k
  o := h.ov
theorem lens_of {w : World} {x : Act15} (h : Act15In w x) : Lens x := ⟨maxLen_le h.ok.nl, maxLen_le h.ok.nt, maxLen_le h.ok.name, maxLen_le h.dvm, maxLen_le h.dok.nl, maxLen_le h.dok.nt, maxLen_le h.dok.name⟩
theorem great15_0 (F : CF) {a : Option Addr} {cap : Nat} {acts : List Act15} (hR : ∀ b v, Rd (F b v) a (cellsL act15C acts)) (hl : acts.length ≤ 9223372036854775807) (hf : ∀ x ∈ acts, Lens x) :
    CallOK Try.prog Great15F [.val (.slice a acts.length cap)] [((0, 0), .fam F)] [] (.val (.bool (greatB15 acts))) [] := by
  intro ε R w hM
  refine (great15_w F (cap := cap) hR hl hf (fun _ _ => ε 0 0) R w hM).mono ?_
  rintro e w' ⟨x, h1, h2⟩
  refine ⟨x, h1, ?_⟩
  have h3 : Mem (F (eset (fun _ _ => ε 0 0) 1 x 0 9).1 (eset (fun _ _ => ε 0 0) 1 x 0 9).2 :: R) w' := h2
  show Mem (F (eset ε 1 x 0 0).1 (eset ε 1 x 0 0).2 :: R) w'
  rw [eset_ne (show (0 : Nat) ≠ 1 by decide)] at h3 ⊢
  exact h3
theorem great15_two (x y : Act15) (hx : Lens x) (hy : Lens y) : CallOK Try.prog Great15F [.raw 0 0] [((0, 0), .row 66 46 2 (.deep (act15X x ++ act15X y)) [])] [] (.val (.bool (greatB15 [x, y]))) [] := by
  have h := callOK_row1 (f := Great15F) (E := 66) (size := 46) (n := 2) (xs := cellsL act15C [x, y]) (ret := .val (.bool (greatB15 [x, y]))) (post := []) rfl rfl (fun F a c hR ok => great15_0 F (acts := [x, y]) hR (by show (2 : Nat) ≤ _; decide) (fun z hz => by
    simp only [List.mem_cons, List.not_mem_nil, or_false] at hz
    rcases hz with rfl | rfl
    · exact hx
    · exact hy))
  refine callOK_rd (fun ε => ?_) h
  have e : SV.dens ε (act15X x ++ act15X y) = cellsL act15C [x, y] := by
    unfold cellsL
    simp only [List.map_cons, List.map_nil, List.flatten_cons, List.flatten_nil, List.append_nil]
    rfl
  simp only [hden, List.map_cons, List.map_nil, SC.den, SL.den, e]
end Go.Proofs.Ytlekbdpdlalhbaa
end
section
namespace Go.Proofs.Ytlekbdpdlalhbaa
set_option maxRecDepth 100000
open Go.RowKit Go.Lib Go.Tk Go.Shelf Go.Vc Go.Sx
set_option linter.unusedVariables false
set_option linter.unusedSimpArgs false

def OrderF15 : Nat := 4
def orSl (a : Option Addr) (n cap i : Nat) : Slots := [(2, .val (.slice a n cap)), (8, .ptr 1 6 0), (9, .ptr 1 7 0), (11, .ptr 1 0 0), (13, .val (.int .i64 (i : Int)))]
def orH (F : CF) (x y : Act15) (B : BookV) : Heap := [((0, 9), .fam F), ((1, 0), .fam (bookF B)), ((1, 6), .box none (act15X x)), ((1, 7), .box none (act15X y))]
def orE : Slots := [(8, .ptr 1 6 0), (9, .ptr 1 7 0), (11, .ptr 1 0 0)]
/-- set, and set back -/
theorem order_back (F : CF) {eb : Env} {R : List Chunk} {x y : Act15} (hkx : KidOk x.k) (hox : OwnOk x.o) {B C : BookV} (eB : BI B) (nd1 : (B.owns.map (·.1)).Nodup) (nd2 : (B.helds.map (·.1)).Nodup) :
    Go Try.prog OrderF15 (.val (.bool true)) ([((0, 9), .fam F)] ++ []) eb R .nrm (rgK Try.prog OrderF15 23 []) [(8, .ptr 1 6 0), (9, .ptr 1 7 0), (15, .ptr 1 5 0)] ([((0, 9), .fam F), ((1, 5), .fam (bookF B)), ((1, 6), .box none (act15X x)), ((1, 7), .box none (act15X y))]) := by
  have c9 := wakes15_w
  have c1 := own_c B hkx
  have c2 := clone_b B eB.ex.cl eB.ex.bk.nodup
  have c3 := setOwn_c B hkx x.o
  have hl2 := setO_lk (B := B) (k := x.k) (o := x.o) x.k
  rw [if_pos rfl] at hl2
  cases hl : lkt B.owns x.k with
  | none =>
    rw [hl] at c1
    clear hl hl2
    exact leaf_end calNone false 400 [hC 23 3 c1, hC 28 0 c9] calNone_ok (by kernel_rfl)
  | some o =>
    rw [hl] at c1 c3 hl2
    have hl2 : lkt (B.setO x.k x.o).owns x.k = some x.o := hl2
    have c4 := setOwn_c (B.setO x.k x.o) hkx o
    rw [hl2] at c4
    have ho : OwnOk o := eB.ex.own x.k o hl
    have c5 := same_c ((B.setO x.k x.o).setO x.k o) B ((eB.ex.setO hox).setO ho).ds eB.ex.ds
    rw [back_same eB.ex.bk.nodup nd1 nd2 hl x.o] at c5
    clear hl hl2 ho
    generalize (B.setO x.k x.o).setO x.k o = B2 at *
    generalize B.setO x.k x.o = B1 at *
    exact leaf_end calNone false 400 [hC 23 3 c1, hC 25 1 c2, hC 26 5 c3, hC 26 12 c4, hC 26 18 c5, hC 28 0 c9] calNone_ok (by kernel_rfl)
/-- behind the acts ahead -/
theorem order_end (F : CF) {eb : Env} {R : List Chunk} {x y : Act15} (hxy : x.k ≠ y.k) (hkx : KidOk x.k) (hox : OwnOk x.o) (hky : KidOk y.k) (hoy : OwnOk y.o) {B : BookV} (eB : BI B) :
    Go Try.prog OrderF15 (.val (.bool true)) ([((0, 9), .fam F)] ++ []) eb R .nrm (rgK Try.prog OrderF15 16 []) orE (orH F x y B) := by
  refine go_open (X := { u : Unit // (B.owns.map (·.1)).Nodup ∧ (B.helds.map (·.1)).Nodup }) (fun _ => [((1, 0), .fam (bookF B)), ((0, 9), .fam F), ((1, 6), .box none (act15X x)), ((1, 7), .box none (act15X y))]) (fun ε w hM => by
    have h1 := Mem.front (c := bookF B (ε 1 0).1 (ε 1 0).2) hM 1 rfl
    exact ⟨⟨(), book_facts h1⟩, h1⟩) (fun _ => by kernel_rfl) ?_
  rintro ⟨-, nd1, nd2⟩
  have c9 := wakes15_w
  have c0 := keys_c (B := B) (by have := eB.hl; omega)
  have lB : (keysL B).length = B.helds.length := keysL_len B
  rcases Bool.eq_false_or_eq_true (decide ((62 : Int) < ((keysL B).length : Int))) with g | g
  · exact leaf_end calNone false 400 [hC 16 1 c0, hB 16 3 _ _ g, hC 17 0 c9] calNone_ok (by kernel_rfl)
  have hr : B.helds.length ≤ 62 := by have := of_decide_eq_false g; omega
  have c1 := clone_b B eB.ex.cl eB.ex.bk.nodup
  -- the one order
  have a1 := setOwn_c B hkx x.o
  have a2 := setHeld_c (B.setO x.k x.o) hkx x.h
  have a3 := setOwn_c (two B x.k x.o x.h) hky y.o
  have a4 := setHeld_c ((two B x.k x.o x.h).setO y.k y.o) hky y.h
  -- the other
  have b1 := setOwn_c B hky y.o
  have b2 := setHeld_c (B.setO y.k y.o) hky y.h
  have b3 := setOwn_c (two B y.k y.o y.h) hkx x.o
  have b4 := setHeld_c ((two B y.k y.o y.h).setO x.k x.o) hkx x.h
  have r1 := two_room (m := 62) (by decide) hr x.k x.o x.h
  have r2 := two_room (m := 62) (by decide) hr y.k y.o y.h
  have ea : (B.setO x.k x.o).setHE x.k = bif B.badK x.k then 1 else 0 := by rw [setHE_room (setO_room (by omega) _ _), setO_badK]
  have eb' : ((two B y.k y.o y.h).setO x.k x.o).setHE x.k = bif B.badK x.k then 1 else 0 := by rw [setHE_room (setO_room (by omega) _ _), setO_badK, two_badK]
  have ec : (B.setO y.k y.o).setHE y.k = bif B.badK y.k then 1 else 0 := by rw [setHE_room (setO_room (by omega) _ _), setO_badK]
  have ed : ((two B x.k x.o x.h).setO y.k y.o).setHE y.k = bif B.badK y.k then 1 else 0 := by rw [setHE_room (setO_room (by omega) _ _), setO_badK, two_badK]
  rw [ea] at a2
  rw [ed] at a4
  rw [ec] at b2
  rw [eb'] at b4
  rw [two_lk, if_neg hxy] at a3
  rw [two_lk, if_neg hxy.symm] at b3
  replace a2 : CallOK Try.prog SetHeldF [.ptr 0 0 0, .agg (kidS x.k), .agg (heldS x.h)] [] (bkC (B.setO x.k x.o)) (eN (bif B.badK x.k then 1 else 0)) (bkC (two B x.k x.o x.h)) := a2
  replace a4 : CallOK Try.prog SetHeldF [.ptr 0 0 0, .agg (kidS y.k), .agg (heldS y.h)] [] (bkC ((two B x.k x.o x.h).setO y.k y.o)) (eN (bif B.badK y.k then 1 else 0)) (bkC (two (two B x.k x.o x.h) y.k y.o y.h)) := a4
  replace b2 : CallOK Try.prog SetHeldF [.ptr 0 0 0, .agg (kidS y.k), .agg (heldS y.h)] [] (bkC (B.setO y.k y.o)) (eN (bif B.badK y.k then 1 else 0)) (bkC (two B y.k y.o y.h)) := b2
  replace b4 : CallOK Try.prog SetHeldF [.ptr 0 0 0, .agg (kidS x.k), .agg (heldS x.h)] [] (bkC ((two B y.k y.o y.h).setO x.k x.o)) (eN (bif B.badK x.k then 1 else 0)) (bkC (two (two B y.k y.o y.h) x.k x.o x.h)) := b4
  have dx : ExOk (two (two B x.k x.o x.h) y.k y.o y.h) := ((((eB.ex.setO hox).setH _ _).setO hoy).setH _ _)
  have dy : ExOk (two (two B y.k y.o y.h) x.k x.o x.h) := ((((eB.ex.setO hoy).setH _ _).setO hox).setH _ _)
  have cs := same_c (two (two B x.k x.o x.h) y.k y.o y.h) (two (two B y.k y.o y.h) x.k x.o x.h) dx.ds dy.ds
  rw [two_two eB.ex.bk.nodup nd1 nd2 hr hxy] at cs
  have fin := order_back F (eb := eb) (R := R) (x := x) (y := y) (C := B) hkx hox eB nd1 nd2
  have n1 : (!decide (noneE (lkt B.owns x.k).isSome = noneE (lkt B.owns x.k).isSome)) = false := by simp
  have n2 : (!decide (noneE (lkt B.owns y.k).isSome = noneE (lkt B.owns y.k).isSome)) = false := by simp
  have n3 : (!decide ((bif B.badK x.k then (1 : Int) else 0) = (bif B.badK x.k then (1 : Int) else 0))) = false := by simp
  have n4 : (!decide ((bif B.badK y.k then (1 : Int) else 0) = (bif B.badK y.k then (1 : Int) else 0))) = false := by simp
  clear ea eb' ec ed dx dy r1 r2 hr lB
  generalize noneE (lkt B.owns x.k).isSome = f1 at *
  generalize noneE (lkt B.owns y.k).isSome = f2 at *
  generalize (bif B.badK x.k then (1 : Int) else 0) = f3 at *
  generalize (bif B.badK y.k then (1 : Int) else 0) = f4 at *
  generalize two (two B x.k x.o x.h) y.k y.o y.h = A4 at *
  generalize (two B x.k x.o x.h).setO y.k y.o = A3 at *
  generalize two B x.k x.o x.h = A2 at *
  generalize two (two B y.k y.o y.h) x.k x.o x.h = B4 at *
  generalize (two B y.k y.o y.h).setO x.k x.o = B3 at *
  generalize two B y.k y.o y.h = B2 at *
  generalize B.setO x.k x.o = A1 at *
  generalize B.setO y.k y.o = B1 at *
  exact leaf_cut (rgK Try.prog OrderF15 23 []) _ _ calNone false 400 [hC 16 1 c0, hB 16 3 _ _ g, hC 18 1 c1, hC 18 3 c1, hC 19 5 a1, hC 19 11 a2, hC 19 17 a3, hC 19 23 a4, hC 20 5 b1, hC 20 11 b2, hC 20 17 b3, hC 20 23 b4, hB 21 4 _ _ n1, hB 21 10 _ _ n3, hB 21 17 _ _ n2, hB 21 24 _ _ n4, hC 21 29 cs, .stop 23] calNone_ok (by kernel_rfl) fin
theorem order15_law (F : CF) {self n : Int} (hs : 0 ≤ self ∧ self ≤ 255) {a : Option Addr} {cap : Nat} {acts : List Act15} {x y : Act15} (hRa : ∀ b v, Rd (F b v) a (cellsL act15C acts)) (hl : acts.length ≤ 9223372036854775807) (hf : ∀ y ∈ acts, Lens y)
    (hA : greatB15 acts = false → ∀ y ∈ acts, Act15Rd F y) (hkx : KidOk x.k) (hox : OwnOk x.o) (hky : KidOk y.k) (hoy : OwnOk y.o) (hlx : Lens x) (hly : Lens y) :
    CallOK Try.prog OrderF15 [.val (.int .u8 self), .val (.int .i64 n), .val (.slice a acts.length cap), .agg (act15X x), .agg (act15X y)] [((0, 9), .fam F)] [] (.val (.bool true)) [] := by
  have c0 := great15_w F (cap := cap) hRa hl hf
  have c8 := great15_two x y hlx hly
  have c9 := wakes15_w
  rcases Bool.eq_false_or_eq_true (greatB15 acts) with g | g
  · rw [g] at c0
    exact callOK_run 400 [hC 1 1 c0, hC 2 0 c9] (by kernel_rfl) (by kernel_rfl)
  rw [g] at c0
  have hA := hA g
  have hlen := (greatB15_no g).1
  rcases Bool.eq_false_or_eq_true (greatB15 [x, y]) with g2 | g2
  · rw [g2] at c8
    exact callOK_run 400 [hC 1 1 c0, hC 1 6 c8, hC 2 0 c9] (by kernel_rfl) (by kernel_rfl)
  rw [g2] at c8
  rcases Bool.eq_false_or_eq_true (kidEq x.k y.k) with e | e
  · unfold kidEq at e
    exact callOK_run 400 [hC 1 1 c0, hC 1 6 c8, hB 1 13 _ _ e, hC 2 0 c9] (by kernel_rfl) (by kernel_rfl)
  have hxy := kidEq_no e
  unfold kidEq at e
  by_cases hb : bookE self n = 0
  case neg =>
    have c1 := new_noC hs hb
    exact callOK_run 400 [hC 1 1 c0, hC 1 6 c8, hB 1 13 _ _ e, hC 3 2 c1, hC 5 0 c9] (by kernel_rfl) (by kernel_rfl)
  have c1 := new_okC hs hb
  have hb0 := new_bi self n (bookE_ok hs.1 hb)
  clear hb
  generalize bookNew self n = B0 at *
  refine callOK_intro (by kernel_rfl) fun eb R => ?_
  refine go_loop (X := { i : Nat // i ≤ acts.length ∧ BI (run15 B0 acts i) }) 0 [] (fun z => (orSl a acts.length cap z.1, orH F x y (run15 B0 acts z.1))) (fun z => acts.length - z.1) ⟨0, Nat.zero_le _, hb0⟩ calNone false 400 [hC 1 1 c0, hC 1 6 c8, hB 1 13 _ _ e, hC 3 2 c1] calNone_ok (by kernel_rfl) ?_
  rintro ⟨i, hi, eB⟩ J hJ
  by_cases h : i < acts.length
  · have z0 : decide ((i : Int) < (acts.length : Int)) = true := decide_eq_true (by omega)
    have hin : acts.getD i act15Z ∈ acts := List.mem_of_getElem? (getD_some h act15Z)
    have ha := hA _ hin
    have q1 := idx_openG (P := Try.prog) (t := AT15) (e := 66) (size := 46) (j := 9) (k := .i64) (cap := cap) (n := acts.length) Try.underlying62 (by kernel_rfl) (acts15_len acts) hRa h
    have hpos : 0 < (cellsL act15C acts).length := by rw [acts15_len]; omega
    have nth := act15_nth h
    have q2 := load_openG (P := Try.prog) (t := 3) (k := i * 46) (j := 9) (u := .val (.int .i64 (acts.getD i act15Z).d)) 0 (by kernel_rfl) hRa nth hpos
    have q3 := load_openG (P := Try.prog) (t := 32) (k := i * 46) (j := 9) (u := .agg (salS (acts.getD i act15Z).s (.val (.slice (acts.getD i act15Z).A.la (acts.getD i act15Z).s.legs.length (acts.getD i act15Z).A.lc)) (.val (.slice (acts.getD i act15Z).A.ta (acts.getD i act15Z).s.taxes.length (acts.getD i act15Z).A.tc)))) 1 (by kernel_rfl) hRa nth hpos
    have q4 := load_openG (P := Try.prog) (t := 56) (k := i * 46) (j := 9) (u := .agg (kidS (acts.getD i act15Z).k)) 23 (by kernel_rfl) hRa nth hpos
    have q5 := load_openG (P := Try.prog) (t := 52) (k := i * 46) (j := 9) (u := .agg (ownS (acts.getD i act15Z).o)) 26 (by kernel_rfl) hRa nth hpos
    have q6 := load_openG (P := Try.prog) (t := 64) (k := i * 46) (j := 9) (u := .agg (heldS (acts.getD i act15Z).h)) 36 (by kernel_rfl) hRa nth hpos
    have z9 : IntKind.i64.wrap ((i : Int) + 1) = ((i + 1 : Nat) : Int) := by rw [wr_i64 (by omega)]; omega
    have hJ' : ∀ ε a' w, Rel (ntOf Try.prog OrderF15) 1 eb R ⟨orSl a acts.length cap (i + 1), orH F x y (step15 (run15 B0 acts i) (acts.getD i act15Z)), 2⟩ ε a' w → J a' w := hJ ⟨i + 1, h, eB.step ha.ok ha.o⟩ (by show _ - (i + 1) < _ - i; omega)
    clear hJ
    show Go Try.prog OrderF15 (.val (.bool true)) ([((0, 9), .fam F)] ++ []) eb R .nrm (.code (lpB Try.prog OrderF15 0 []) :: .lp J :: lpK Try.prog OrderF15 0 []) (orSl a acts.length cap i) (orH F x y (run15 B0 acts i))
    generalize run15 B0 acts i = B at *
    generalize acts.getD i act15Z = z at *
    unfold step15 at hJ'
    by_cases g0 : z.d = 0
    · simp only [if_pos g0] at hJ'
      have e0 : decide (z.d = 0) = true := decide_eq_true g0
      unfold BookV.issue at hJ'
      rcases Bool.eq_false_or_eq_true (decide (B.issE z.s = 0)) with e' | e'
      · have c2 := issue_okC F eB.ex.bk ha.ok ha.hl ha.ht ha.h1 ha.h2 (of_decide_eq_true e')
        simp only [e', cond_true] at hJ'
        clear e' g0
        exact leaf_round (lpK Try.prog OrderF15 0 []) false 400 [hB 7 3 _ _ z0, hG 9 2 q1, hG 9 4 q2, hB 10 0 _ _ e0, hG 11 3 q1, hG 11 5 q3, hC 11 6 c2, hI 8 1 IntKind.i64 _ _ z9] hJ' (by kernel_rfl)
      · have c2 := issue_noC F eB.ex.bk ha.ok ha.hl ha.ht ha.h1 ha.h2 (of_decide_eq_false e')
        simp only [e', cond_false] at hJ'
        clear e' g0
        exact leaf_round (lpK Try.prog OrderF15 0 []) false 400 [hB 7 3 _ _ z0, hG 9 2 q1, hG 9 4 q2, hB 10 0 _ _ e0, hG 11 3 q1, hG 11 5 q3, hC 11 6 c2, hI 8 1 IntKind.i64 _ _ z9] hJ' (by kernel_rfl)
    simp only [if_neg g0] at hJ'
    have e0 : decide (z.d = 0) = false := decide_eq_false g0
    clear g0
    by_cases g2 : z.d = 2
    · simp only [if_pos g2] at hJ'
      have e2 : decide (z.d = 2) = true := decide_eq_true g2
      clear g2
      have c2 := setOwn_c B ha.k z.o
      exact leaf_round (lpK Try.prog OrderF15 0 []) false 400 [hB 7 3 _ _ z0, hG 9 2 q1, hG 9 4 q2, hB 10 0 _ _ e0, hB 12 0 _ _ e2, hG 13 3 q1, hG 13 5 q4, hG 13 8 q1, hG 13 10 q5, hC 13 11 c2, hI 8 1 IntKind.i64 _ _ z9] hJ' (by kernel_rfl)
    simp only [if_neg g2] at hJ'
    have e2 : decide (z.d = 2) = false := decide_eq_false g2
    clear g2
    by_cases g3 : z.d = 3
    · simp only [if_pos g3] at hJ'
      have e3 : decide (z.d = 3) = true := decide_eq_true g3
      clear g3
      have c2 := setHeld_c B ha.k z.h
      exact leaf_round (lpK Try.prog OrderF15 0 []) false 400 [hB 7 3 _ _ z0, hG 9 2 q1, hG 9 4 q2, hB 10 0 _ _ e0, hB 12 0 _ _ e2, hB 14 0 _ _ e3, hG 15 3 q1, hG 15 5 q4, hG 15 8 q1, hG 15 10 q6, hC 15 11 c2, hI 8 1 IntKind.i64 _ _ z9] hJ' (by kernel_rfl)
    · simp only [if_neg g3] at hJ'
      have e3 : decide (z.d = 3) = false := decide_eq_false g3
      clear g3
      exact leaf_round (lpK Try.prog OrderF15 0 []) false 400 [hB 7 3 _ _ z0, hG 9 2 q1, hG 9 4 q2, hB 10 0 _ _ e0, hB 12 0 _ _ e2, hB 14 0 _ _ e3, hI 8 1 IntKind.i64 _ _ z9] hJ' (by kernel_rfl)
  · have z0 : decide ((i : Int) < (acts.length : Int)) = false := decide_eq_false (by omega)
    have fin := order_end F (eb := eb) (R := R) hxy hkx hox hky hoy eB
    exact leaf_cut (rgK Try.prog OrderF15 16 []) _ _ calNone false 400 [hB 7 3 _ _ z0, .stop 16] calNone_ok (by kernel_rfl) fin
theorem order15_any (self n : Int) (a : Option Addr) (l : List Act15) (c : Nat) (x y : Act15) (w : World) (hs : (Lit.int .u8 self).wf = true) (hn0 : (Lit.int .i64 n).wf = true) (hr : Row w a (cellsL act15C l)) (hn : a = none → c = 0) (hl : l.length ≤ maxLen) (ok : ∀ x ∈ l, Act15In w x) (okx : Act15In w x) (oky : Act15In w y) :
    Calls Try.prog OrderF15 #[.int .u8 self, .int .i64 n, .slice a l.length c, .agg (act15C x).toArray, .agg (act15C y).toArray] w fun e w' => e = .returned (.bool true) ∧ Below w.heap.size w w' :=
  (order15_law (fun _ _ => oldC w) (wfu8 hs) (cap := c) (x := x) (y := y) (fun _ _ => rd_old hr) (maxLen_le hl) (fun y hy => lens_of (ok y hy))
    (fun hg y hy => act15Rd_of (ok y hy) (by have := ((greatB15_no hg).2 y hy).1; omega) (by have := ((greatB15_no hg).2 y hy).2; omega)) okx.k okx.ov oky.k oky.ov (lens_of okx) (lens_of oky) (fun _ _ => (0, undef)) [] w (Mem.old w)).mono fun e w' ⟨x, h, hm⟩ => ⟨h, (show Mem (oldC w :: []) w' from hm).below 0 rfl⟩
end Go.Proofs.Ytlekbdpdlalhbaa
end
