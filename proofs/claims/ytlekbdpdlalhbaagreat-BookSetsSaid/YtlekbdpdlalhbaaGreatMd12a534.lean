/- OpB, Bs1, Bs2. -/
import Derived.Test.YtlekbdpdlalhbaaGreatM4f78b84
import Derived.Test.YtlekbdpdlalhbaaGreatMc9a0721
import Derived.Test.YtlekbdpdlalhbaaGreatEbP3
section
namespace Go.Proofs.YtlekbdpdlalhbaaGreat
set_option maxRecDepth 100000
open Go.RowKit Go.Lib Go.Tk Go.Shelf Go.Vc Go.Sx Go.WideShapes
set_option linter.unusedVariables false
set_option linter.unusedSimpArgs false

structure Act15 where
  d : Int
  s : SaleV
  A : SaleA
  dv : DocV
  da : DocA
  k : Kid
  o : OwnV
  h : HeldV
def saleC (s : SaleV) (A : SaleA) : List Value := [.string s.name, .slice A.la s.legs.length A.lc, .int .i64 s.fare, .slice A.ta s.taxes.length A.tc, .int .i64 s.pen]
def act15C (x : Act15) : List Value := [.int .i64 x.d] ++ (saleC x.s x.A ++ (docL (x.dv, x.da) ++ (kidC x.k ++ (ownL x.o ++ heldL x.h))))
def I64Ok (v : Int) : Prop := -9223372036854775808 ≤ v ∧ v ≤ 9223372036854775807
structure Act15In (w : World) (x : Act15) : Prop where
  at_ : SaleAt w x.s x.A
  ok : SaleW x.s
  da : SaleAt w x.dv.s ⟨x.da.la, x.da.lc, x.da.ta, x.da.tc⟩
  dok : SaleW x.dv.s
  dv : Row w x.da.va (x.dv.vals.map (.int .i64))
  dvn : x.da.va = none → x.da.vc = 0
  dvm : x.dv.vals.length ≤ maxLen
  dt : TidOk x.dv.t
  k : KidOk x.k
  ov : I64Ok x.o.k.v
  os : 0 ≤ x.o.k.s ∧ x.o.k.s ≤ 255
  ot : 0 ≤ x.o.dst ∧ x.o.dst ≤ 255
  hv : I64Ok x.h.k.v
section
variable {H : Type} {enc : TypeId × Value → H} {w : World} {base : Nat} {spare : Nat → Bool} {held : Bool}
theorem FlatAs.split : ∀ {ts us : List TypeId} {cs : List Value}, FlatAs enc Tryz.prog w base spare held (ts ++ us) cs → ∃ a b, cs = a ++ b ∧ FlatAs enc Tryz.prog w base spare held ts a ∧ FlatAs enc Tryz.prog w base spare held us b
  | [], us, cs, h => ⟨[], cs, rfl, rfl, h⟩
  | t :: ts, us, cs, ⟨v, cs', e, hv, h⟩ => by
    obtain ⟨a, b, h1, ha, hb⟩ := FlatAs.split h
    subst h1
    subst e
    exact ⟨v :: a, b, rfl, ⟨v, a, rfl, hv, ha⟩, hb⟩
theorem ints15_cell {n : Nat} {v : Value} {y : DataW H × List MemPlace} (h : DataW.trod enc Tryz.prog w base spare held n 60 [v] = some y) :
    ∃ (a : Option Addr) (l : List Int) (c : Nat), v = .slice a l.length c ∧ Row w a (l.map (.int .i64)) ∧ (a = none → c = 0) ∧ l.length ≤ maxLen ∧ ∀ x ∈ l, (Lit.int .i64 x).wf = true := by
  obtain ⟨a, len, cap, rows, rfl, hlen, hrows, hr, hn, hm, _⟩ := slice_rows (fun cs => ∃ x : Int, [.int .i64 x] = cs ∧ (Lit.int .i64 x).wf = true) Tryz.underlying60 (show Tryz.prog.cellsOf 2 = 1 by kernel_rfl) (by decide) (fun n cs y hl h => by obtain ⟨x, e, w⟩ := int_cell Tryz.underlying2 h; exact ⟨x, e.symm, w⟩) h
  obtain ⟨l, hl⟩ := listOf (enc := fun x : { x : Int // (Lit.int .i64 x).wf = true } => [Value.int .i64 x.1]) (Q := fun cs => ∃ x : Int, [Value.int .i64 x] = cs ∧ (Lit.int .i64 x).wf = true) (fun r ⟨x, hx, hk⟩ => ⟨⟨x, hk⟩, hx⟩) rows (fun r hr => (hrows r hr).2)
  have hl2 : (l.map (·.1)).map (fun x => [Value.int .i64 x]) = rows := by rw [List.map_map]; exact hl
  have hl3 : (l.map (·.1)).length = len := by rw [← hlen, ← hl2]; simp
  have hl4 : rows.flatten = (l.map (·.1)).map (.int .i64) := by
    rw [← hl2]
    generalize l.map (·.1) = z
    induction z with
    | nil => rfl
    | cons x r ih => simp [ih]
  refine ⟨a, l.map (·.1), cap, by rw [hl3], ?_, hn, by rw [hl3]; exact hm, fun x hx => ?_⟩
  · rw [← hl4]; exact hr
  · obtain ⟨z, _, rfl⟩ := List.mem_map.1 hx; exact z.2
theorem sale_of {cs : List Value} (h : FlatAs enc Tryz.prog w base spare held [9, 56, 2, 57, 2] cs) : ∃ s A, saleC s A = cs ∧ SaleAt w s A ∧ SaleW s := by
  obtain ⟨v0, _, rfl, ⟨n0, y0, h0⟩, v1, _, rfl, ⟨n1, y1, h1⟩, v2, _, rfl, ⟨n2, y2, h2⟩, v3, _, rfl, ⟨n3, y3, h3⟩, v4, _, rfl, ⟨n4, y4, h4⟩, rfl⟩ := h
  obtain ⟨a0, e0, w0⟩ := string_cell Tryz.underlying9 h0
  cases e0
  obtain ⟨b1, a1, c1, e1, r1, i1, m1, o1⟩ := legs_cell h1
  cases e1
  obtain ⟨a2, e2, w2⟩ := int_cell Tryz.underlying2 h2
  cases e2
  obtain ⟨b3, a3, c3, e3, r3, i3, m3, o3⟩ := taxes_cell h3
  cases e3
  obtain ⟨a4, e4, w4⟩ := int_cell Tryz.underlying2 h4
  cases e4
  exact ⟨⟨a0, a1, a2, a3, a4⟩, ⟨b1, c1, b3, c3⟩, rfl, ⟨r1, r3, i1, i3⟩, ⟨w0, o1, o3, wfi64 w2, wfi64 w4, m1, m3⟩⟩
theorem tid_of {cs : List Value} (h : FlatAs enc Tryz.prog w base spare held [5, 23] cs) : ∃ t : Tid, [Value.int .u8 t.c, .int .u64 t.r] = cs ∧ TidOk t := by
  obtain ⟨v0, _, rfl, ⟨n0, y0, h0⟩, v1, _, rfl, ⟨n1, y1, h1⟩, rfl⟩ := h
  obtain ⟨a0, e0, w0⟩ := int_cell Tryz.underlying5 h0
  cases e0
  obtain ⟨a1, e1, w1⟩ := int_cell Tryz.underlying23 h1
  cases e1
  exact ⟨⟨a0, a1⟩, rfl, wfu8 w0, wfu64 w1⟩
theorem own_of {cs : List Value} (h : FlatAs enc Tryz.prog w base spare held [5, 28, 29, 2, 32, 29, 4, 5, 4, 4] cs) : ∃ o : OwnV, ownL o = cs ∧ I64Ok o.k.v ∧ (0 ≤ o.k.s ∧ o.k.s ≤ 255) ∧ 0 ≤ o.dst ∧ o.dst ≤ 255 := by
  obtain ⟨v0, _, rfl, ⟨n0, y0, h0⟩, v1, _, rfl, ⟨n1, y1, h1⟩, v2, _, rfl, ⟨n2, y2, h2⟩, v3, _, rfl, ⟨n3, y3, h3⟩, v4, _, rfl, ⟨n4, y4, h4⟩, v5, _, rfl, ⟨n5, y5, h5⟩, v6, _, rfl, ⟨n6, y6, h6⟩, v7, _, rfl, ⟨n7, y7, h7⟩, v8, _, rfl, ⟨n8, y8, h8⟩, v9, _, rfl, ⟨n9, y9, h9⟩, rfl⟩ := h
  obtain ⟨a0, e0, w0⟩ := int_cell Tryz.underlying5 h0
  cases e0
  obtain ⟨a1, e1, w1⟩ := int_cell Tryz.underlying28 h1
  cases e1
  obtain ⟨a2, e2, w2⟩ := int_cell Tryz.underlying29 h2
  cases e2
  obtain ⟨a3, e3, w3⟩ := int_cell Tryz.underlying2 h3
  cases e3
  obtain ⟨a4, e4, w4⟩ := int_cell Tryz.underlying32 h4
  cases e4
  obtain ⟨a5, e5, w5⟩ := int_cell Tryz.underlying29 h5
  cases e5
  obtain ⟨a6, e6⟩ := bool_cell Tryz.underlying4 h6
  cases e6
  obtain ⟨a7, e7, w7⟩ := int_cell Tryz.underlying5 h7
  cases e7
  obtain ⟨a8, e8⟩ := bool_cell Tryz.underlying4 h8
  cases e8
  obtain ⟨a9, e9⟩ := bool_cell Tryz.underlying4 h9
  cases e9
  exact ⟨⟨⟨⟨a0, a1, a2⟩, a3, a4, a5⟩, a6, a7, a8, a9⟩, rfl, wfi64 w3, wfu8 w4, wfu8 w7⟩
theorem held_of {cs : List Value} (h : FlatAs enc Tryz.prog w base spare held [5, 28, 29, 2, 32, 29, 4, 4, 4, 4] cs) : ∃ o : HeldV, heldL o = cs ∧ I64Ok o.k.v := by
  obtain ⟨v0, _, rfl, ⟨n0, y0, h0⟩, v1, _, rfl, ⟨n1, y1, h1⟩, v2, _, rfl, ⟨n2, y2, h2⟩, v3, _, rfl, ⟨n3, y3, h3⟩, v4, _, rfl, ⟨n4, y4, h4⟩, v5, _, rfl, ⟨n5, y5, h5⟩, v6, _, rfl, ⟨n6, y6, h6⟩, v7, _, rfl, ⟨n7, y7, h7⟩, v8, _, rfl, ⟨n8, y8, h8⟩, v9, _, rfl, ⟨n9, y9, h9⟩, rfl⟩ := h
  obtain ⟨a0, e0, w0⟩ := int_cell Tryz.underlying5 h0
  cases e0
  obtain ⟨a1, e1, w1⟩ := int_cell Tryz.underlying28 h1
  cases e1
  obtain ⟨a2, e2, w2⟩ := int_cell Tryz.underlying29 h2
  cases e2
  obtain ⟨a3, e3, w3⟩ := int_cell Tryz.underlying2 h3
  cases e3
  obtain ⟨a4, e4, w4⟩ := int_cell Tryz.underlying32 h4
  cases e4
  obtain ⟨a5, e5, w5⟩ := int_cell Tryz.underlying29 h5
  cases e5
  obtain ⟨a6, e6⟩ := bool_cell Tryz.underlying4 h6
  cases e6
  obtain ⟨a7, e7⟩ := bool_cell Tryz.underlying4 h7
  cases e7
  obtain ⟨a8, e8⟩ := bool_cell Tryz.underlying4 h8
  cases e8
  obtain ⟨a9, e9⟩ := bool_cell Tryz.underlying4 h9
  cases e9
  exact ⟨⟨⟨⟨a0, a1, a2⟩, a3, a4, a5⟩, a6, a7, a8, a9⟩, rfl, wfi64 w3⟩
theorem five_of {cs : List Value} (h : FlatAs enc Tryz.prog w base spare held [2, 2, 2, 2, 2] cs) : ∃ a b c d e : Int, [Value.int .i64 a, .int .i64 b, .int .i64 c, .int .i64 d, .int .i64 e] = cs := by
  obtain ⟨v0, _, rfl, ⟨n0, y0, h0⟩, v1, _, rfl, ⟨n1, y1, h1⟩, v2, _, rfl, ⟨n2, y2, h2⟩, v3, _, rfl, ⟨n3, y3, h3⟩, v4, _, rfl, ⟨n4, y4, h4⟩, rfl⟩ := h
  obtain ⟨a0, e0, w0⟩ := int_cell Tryz.underlying2 h0
  cases e0
  obtain ⟨a1, e1, w1⟩ := int_cell Tryz.underlying2 h1
  cases e1
  obtain ⟨a2, e2, w2⟩ := int_cell Tryz.underlying2 h2
  cases e2
  obtain ⟨a3, e3, w3⟩ := int_cell Tryz.underlying2 h3
  cases e3
  obtain ⟨a4, e4, w4⟩ := int_cell Tryz.underlying2 h4
  cases e4
  exact ⟨a0, a1, a2, a3, a4, rfl⟩
theorem vals_of {cs : List Value} (h : FlatAs enc Tryz.prog w base spare held [60] cs) : ∃ (a : Option Addr) (l : List Int) (c : Nat), [Value.slice a l.length c] = cs ∧ Row w a (l.map (.int .i64)) ∧ (a = none → c = 0) ∧ l.length ≤ maxLen := by
  obtain ⟨v0, _, rfl, ⟨n0, y0, h0⟩, rfl⟩ := h
  obtain ⟨b0, a0, c0, e0, r0, i0, m0, o0⟩ := ints15_cell h0
  cases e0
  exact ⟨b0, a0, c0, rfl, r0, i0, m0⟩
theorem do_of {cs : List Value} (h : FlatAs enc Tryz.prog w base spare held [3] cs) : ∃ a : Int, [Value.int .i64 a] = cs := by
  obtain ⟨v0, _, rfl, ⟨n0, y0, h0⟩, rfl⟩ := h
  obtain ⟨a0, e0, w0⟩ := int_cell Tryz.underlying3 h0
  cases e0
  exact ⟨a0, rfl⟩
def docTs : List TypeId := [5, 23] ++ ([9, 56, 2, 57, 2] ++ ([60] ++ ([5, 23] ++ ([5, 23] ++ [2, 2, 2, 2, 2]))))
def act15Ts : List TypeId := [3] ++ ([9, 56, 2, 57, 2] ++ (docTs ++ ([5, 23, 5] ++ ([5, 28, 29, 2, 32, 29, 4, 5, 4, 4] ++ [5, 28, 29, 2, 32, 29, 4, 4, 4, 4]))))
theorem doc_of {cs : List Value} (h : FlatAs enc Tryz.prog w base spare held docTs cs) : ∃ (d : DocV) (a : DocA), docL (d, a) = cs ∧ TidOk d.t ∧ SaleAt w d.s ⟨a.la, a.lc, a.ta, a.tc⟩ ∧ SaleW d.s ∧ Row w a.va (d.vals.map (.int .i64)) ∧ (a.va = none → a.vc = 0) ∧ d.vals.length ≤ maxLen := by
  obtain ⟨x1, r1, e1, h1, g1⟩ := FlatAs.split h
  obtain ⟨x2, r2, e2, h2, g2⟩ := FlatAs.split g1
  obtain ⟨x3, r3, e3, h3, g3⟩ := FlatAs.split g2
  obtain ⟨x4, r4, e4, h4, g4⟩ := FlatAs.split g3
  obtain ⟨x5, x6, e5, h5, h6⟩ := FlatAs.split g4
  obtain ⟨t, f1, t1⟩ := tid_of h1
  obtain ⟨s, A, f2, s1, s2⟩ := sale_of h2
  obtain ⟨va, l, vc, f3, v1, v2, v3⟩ := vals_of h3
  obtain ⟨fr, f4, -⟩ := tid_of h4
  obtain ⟨ds, f5, -⟩ := tid_of h5
  obtain ⟨q1, q2, q3, q4, q5, f6⟩ := five_of h6
  refine ⟨⟨t, s, l, fr, ds, q1, q2, q3, q4, q5⟩, ⟨A.la, A.lc, A.ta, A.tc, va, vc⟩, ?_, t1, s1, s2, v1, v2, v3⟩
  rw [e1, e2, e3, e4, e5, ← f1, ← f2, ← f3, ← f4, ← f5, ← f6]
  rfl
theorem act15_of {cs : List Value} (h : FlatAs enc Tryz.prog w base spare held act15Ts cs) : ∃ x : Act15, act15C x = cs ∧ Act15In w x := by
  obtain ⟨x1, r1, e1, h1, g1⟩ := FlatAs.split h
  obtain ⟨x2, r2, e2, h2, g2⟩ := FlatAs.split g1
  obtain ⟨x3, r3, e3, h3, g3⟩ := FlatAs.split g2
  obtain ⟨x4, r4, e4, h4, g4⟩ := FlatAs.split g3
  obtain ⟨x5, x6, e5, h5, h6⟩ := FlatAs.split g4
  obtain ⟨d, f1⟩ := do_of h1
  obtain ⟨s, A, f2, s1, s2⟩ := sale_of h2
  obtain ⟨dv, da, f3, d1, d2, d3, d4, d5, d6⟩ := doc_of h3
  obtain ⟨k, f4, k1⟩ := kid_of h4
  obtain ⟨o, f5, o1, o2, o3⟩ := own_of h5
  obtain ⟨hh, f6, hh1⟩ := held_of h6
  refine ⟨⟨d, s, A, dv, da, k, o, hh⟩, ?_, ⟨s1, s2, d2, d3, d4, d5, d6, d1, k1, o1, o2, o3, hh1⟩⟩
  rw [e1, e2, e3, e4, e5, ← f1, ← f2, ← f3, ← f4, ← f5, ← f6]
  rfl
theorem act15_flat : flatT Tryz.prog 6 66 = some act15Ts := by kernel_rfl
theorem acts15_cell {n : Nat} {v : Value} {y : DataW H × List MemPlace} (h : DataW.trod enc Tryz.prog w base spare held n 22 [v] = some y) :
    ∃ (a : Option Addr) (l : List Act15) (c : Nat), v = .slice a l.length c ∧ Row w a (cellsL act15C l) ∧ (a = none → c = 0) ∧ l.length ≤ maxLen ∧ ∀ x ∈ l, Act15In w x := by
  obtain ⟨a, len, cap, rows, rfl, hlen, hrows, hr, hn, hm, _⟩ := slice_rows (fun cs => ∃ l : Act15, act15C l = cs ∧ Act15In w l) Tryz.underlying22 (show Tryz.prog.cellsOf 66 = 46 by kernel_rfl) (by decide)
    (fun n cs y hl h => act15_of (flat_of 6 _ _ act15_flat n cs y h (by rw [hl]; kernel_rfl))) h
  obtain ⟨l, hl⟩ := listOf (enc := fun x : { x : Act15 // Act15In w x } => act15C x.1) (Q := fun cs => ∃ l : Act15, act15C l = cs ∧ Act15In w l) (fun r ⟨x, hx, hk⟩ => ⟨⟨x, hk⟩, hx⟩) rows (fun r hr => (hrows r hr).2)
  have hl2 : (l.map (·.1)).map act15C = rows := by rw [List.map_map]; exact hl
  have hl3 : (l.map (·.1)).length = len := by rw [← hlen, ← hl2]; simp
  refine ⟨a, l.map (·.1), cap, by rw [hl3], ?_, hn, by rw [hl3]; exact hm, fun x hx => ?_⟩
  · unfold cellsL; rw [hl2]; exact hr
  · obtain ⟨z, _, rfl⟩ := List.mem_map.1 hx; exact z.2
/-- a struct of that type alone -/
theorem open_act15 {r : Reach} {b0 : Nat} {v : Value} {d : DataW H} {p : List MemPlace} (hv : Value.okWide Tryz.prog w r b0 66 v) (h : DataW.Trod enc Tryz.prog w base spare held 66 v d p) :
    ∃ x : Act15, v = .agg (act15C x).toArray ∧ Act15In w x := by
  obtain ⟨cs, rfl, hf⟩ := flat_open 6 Tryz.underlying66 act15_flat hv h
  obtain ⟨x, rfl, ok⟩ := act15_of hf
  exact ⟨x, rfl, ok⟩
end
end Go.Proofs.YtlekbdpdlalhbaaGreat
end
section
namespace Go.Proofs.YtlekbdpdlalhbaaGreat
set_option maxRecDepth 100000
open Go.RowKit Go.Lib Go.Tk Go.Shelf Go.Vc Go.Sx
set_option linter.unusedVariables false
set_option linter.unusedSimpArgs false

theorem load_openG3 {P : Program} {t k j : Nat} {F : Nat → Value → Chunk} {a : Option Addr} {xs : List Value} {cs : List SV} {u : SV} (q1 q2 q3 : Nat) (hu : Go.Sx.partAt P t cs (q1 + q2 + q3) = some u) (hR : ∀ b v, Rd (F b v) a xs) (hc : ∀ ε i v, cs[i]? = some v → xs[k + i]? = some (v.den ε)) (h0 : 0 < xs.length) :
    OpG P (isLoad t) loadX [.val (.pointer (some (((((a.getD ⟨0, 0, none⟩).add k).add q1).add q2).add q3)))] [((0, j), .fam F)] [] u [] := by
  have := load_openG (j := j) (q1 + q2 + q3) hu hR hc h0
  have e : ∀ x : Addr, ((x.add q1).add q2).add q3 = x.add (q1 + q2 + q3) := fun x => by
    by_cases hk : q1 = 0 <;> by_cases hj : q2 = 0 <;> by_cases hl : q3 = 0 <;> simp [Addr.add, hk, hj, hl, Nat.add_assoc]
  rw [e]
  exact this
def Great15F : Nat := 21
def AT15 : TypeId := 22
def act15X (x : Act15) : List SV := .val (.int .i64 x.d) :: .val (.string x.s.name) :: .val (.slice x.A.la x.s.legs.length x.A.lc) :: .val (.int .i64 x.s.fare) :: .val (.slice x.A.ta x.s.taxes.length x.A.tc) :: .val (.int .i64 x.s.pen) :: (docSA x.dv x.da ++ (kidS x.k ++ (ownS x.o ++ heldS x.h)))
def act15Z : Act15 := ⟨0, ⟨⟨#[]⟩, [], 0, [], 0⟩, ⟨none, 0, none, 0⟩, doc0, docA0, kid0, own0, held0⟩
theorem act15X_den (x : Act15) (ε : Env) : SV.dens ε (act15X x) = act15C x := rfl
theorem act15_nth {acts : List Act15} {i : Nat} (h : i < acts.length) : ∀ (ε : Env) (q : Nat) (v : SV), (act15X (acts.getD i act15Z))[q]? = some v → (cellsL act15C acts)[i * 46 + q]? = some (v.den ε) :=
  cells_nth (enc := act15C) (encS := act15X) act15X_den (fun _ => rfl) (getD_some h act15Z)
theorem acts15_len (acts : List Act15) : (cellsL act15C acts).length = acts.length * 46 := cellsL_len (enc := act15C) (size := 46) (fun _ => rfl) acts
def greatX (x : Act15) : Bool := decide ((20 : Int) < (x.s.legs.length : Int)) || (decide ((20 : Int) < (x.s.taxes.length : Int)) || (decide ((200 : Int) < (x.s.name.size : Int)) || (decide ((20 : Int) < (x.dv.vals.length : Int)) || (decide ((20 : Int) < (x.dv.s.legs.length : Int)) || (decide ((20 : Int) < (x.dv.s.taxes.length : Int)) || decide ((200 : Int) < (x.dv.s.name.size : Int)))))))
def greatB15 (acts : List Act15) : Bool := decide ((150 : Int) < (acts.length : Int)) || acts.any greatX
theorem great15_one (x : Act15) : CallOK Tryz.prog Great15F [.raw 0 5] [((0, 5), .row 66 46 1 (.deep (act15X x)) [])] [] (.val (.bool (greatX x))) [] := by
  rcases Bool.eq_false_or_eq_true (decide ((20 : Int) < (x.s.legs.length : Int))) with g1 | g1
  · rw [show greatX x = true by unfold greatX; rw [g1]; rfl]
    exact callOK_runU 900 [hB 6 7 _ _ g1] (by kernel_rfl) (by kernel_rfl)
  rcases Bool.eq_false_or_eq_true (decide ((20 : Int) < (x.s.taxes.length : Int))) with g2 | g2
  · rw [show greatX x = true by unfold greatX; rw [g1, g2]; rfl]
    exact callOK_runU 900 [hB 6 7 _ _ g1, hB 6 16 _ _ g2] (by kernel_rfl) (by kernel_rfl)
  rcases Bool.eq_false_or_eq_true (decide ((200 : Int) < (x.s.name.size : Int))) with g3 | g3
  · rw [show greatX x = true by unfold greatX; rw [g1, g2, g3]; rfl]
    exact callOK_runU 900 [hB 6 7 _ _ g1, hB 6 16 _ _ g2, hB 6 26 _ _ g3] (by kernel_rfl) (by kernel_rfl)
  rcases Bool.eq_false_or_eq_true (decide ((20 : Int) < (x.dv.vals.length : Int))) with g4 | g4
  · rw [show greatX x = true by unfold greatX; rw [g1, g2, g3, g4]; rfl]
    exact callOK_runU 900 [hB 6 7 _ _ g1, hB 6 16 _ _ g2, hB 6 26 _ _ g3, hB 6 36 _ _ g4] (by kernel_rfl) (by kernel_rfl)
  rcases Bool.eq_false_or_eq_true (decide ((20 : Int) < (x.dv.s.legs.length : Int))) with g5 | g5
  · rw [show greatX x = true by unfold greatX; rw [g1, g2, g3, g4, g5]; rfl]
    exact callOK_runU 900 [hB 6 7 _ _ g1, hB 6 16 _ _ g2, hB 6 26 _ _ g3, hB 6 36 _ _ g4, hB 6 47 _ _ g5] (by kernel_rfl) (by kernel_rfl)
  rcases Bool.eq_false_or_eq_true (decide ((20 : Int) < (x.dv.s.taxes.length : Int))) with g6 | g6
  · rw [show greatX x = true by unfold greatX; rw [g1, g2, g3, g4, g5, g6]; rfl]
    exact callOK_runU 900 [hB 6 7 _ _ g1, hB 6 16 _ _ g2, hB 6 26 _ _ g3, hB 6 36 _ _ g4, hB 6 47 _ _ g5, hB 6 58 _ _ g6] (by kernel_rfl) (by kernel_rfl)
  rcases Bool.eq_false_or_eq_true (decide ((200 : Int) < (x.dv.s.name.size : Int))) with g7 | g7
  · rw [show greatX x = true by unfold greatX; rw [g1, g2, g3, g4, g5, g6, g7]; rfl]
    exact callOK_runU 900 [hB 6 7 _ _ g1, hB 6 16 _ _ g2, hB 6 26 _ _ g3, hB 6 36 _ _ g4, hB 6 47 _ _ g5, hB 6 58 _ _ g6, hB 6 69 _ _ g7] (by kernel_rfl) (by kernel_rfl)
  rw [show greatX x = false by unfold greatX; rw [g1, g2, g3, g4, g5, g6, g7]; rfl]
  exact callOK_runU 900 [hB 6 7 _ _ g1, hB 6 16 _ _ g2, hB 6 26 _ _ g3, hB 6 36 _ _ g4, hB 6 47 _ _ g5, hB 6 58 _ _ g6, hB 6 69 _ _ g7] (by kernel_rfl) (by kernel_rfl)
structure Lens (x : Act15) : Prop where
  a : x.s.legs.length ≤ 9223372036854775807
  b : x.s.taxes.length ≤ 9223372036854775807
  c : x.s.name.size ≤ 9223372036854775807
  d : x.dv.vals.length ≤ 9223372036854775807
  e : x.dv.s.legs.length ≤ 9223372036854775807
  f : x.dv.s.taxes.length ≤ 9223372036854775807
  g : x.dv.s.name.size ≤ 9223372036854775807
theorem great15_w (F : CF) {a : Option Addr} {cap : Nat} {acts : List Act15} (hR : ∀ b v, Rd (F b v) a (cellsL act15C acts)) (hl : acts.length ≤ 9223372036854775807) (hf : ∀ x ∈ acts, Lens x) :
    CallOK Tryz.prog Great15F [.val (.slice a acts.length cap)] [((0, 9), .fam F)] [] (.val (.bool (greatB15 acts))) [] := by
  rcases Bool.eq_false_or_eq_true (decide ((150 : Int) < (acts.length : Int))) with g | g
  · rw [show greatB15 acts = true by unfold greatB15; rw [g]; rfl]
    exact callOK_run 400 [hB 1 2 _ _ g] (by kernel_rfl) (by kernel_rfl)
  have hl150 : acts.length ≤ 150 := by have := of_decide_eq_false g; omega
  refine callOK_intro (by kernel_rfl) fun eb R => ?_
  refine go_loop (X := { i : Nat // i ≤ acts.length ∧ ∀ j, j < i → greatX (acts.getD j act15Z) = false }) 0 [] (fun x => ([(0, .val (.slice a acts.length cap)), (3, .val (.int .i64 (x.1 : Int)))], [((0, 9), .fam F)])) (fun x => acts.length - x.1) ⟨0, Nat.zero_le _, fun j hj => absurd hj (Nat.not_lt_zero _)⟩ calNone false 400 [hB 1 2 _ _ g] calNone_ok (by kernel_rfl) ?_
  rintro ⟨i, hi, hd⟩ J hJ
  by_cases h : i < acts.length
  · have hin : acts.getD i act15Z ∈ acts := List.mem_of_getElem? (getD_some h act15Z)
    obtain ⟨b1, b2, b3, b4, b5, b6, b7⟩ := hf _ hin
    have q0 : decide ((i : Int) < (acts.length : Int)) = true := decide_eq_true (by omega)
    have q1 := idx_openG (P := Tryz.prog) (t := AT15) (e := 66) (size := 46) (j := 9) (k := .i64) (cap := cap) (n := acts.length) Tryz.underlying22 (by kernel_rfl) (acts15_len acts) hR h
    have hpos : 0 < (cellsL act15C acts).length := by rw [acts15_len]; omega
    have nth := act15_nth h
    have q2 := load_openG2 (P := Tryz.prog) (t := 56) (k := i * 46) (j := 9) (u := .val (.slice (acts.getD i act15Z).A.la (acts.getD i act15Z).s.legs.length (acts.getD i act15Z).A.lc)) 1 1 (by kernel_rfl) hR nth hpos
    have q3 := load_openG2 (P := Tryz.prog) (t := 57) (k := i * 46) (j := 9) (u := .val (.slice (acts.getD i act15Z).A.ta (acts.getD i act15Z).s.taxes.length (acts.getD i act15Z).A.tc)) 1 3 (by kernel_rfl) hR nth hpos
    have q4 := load_openG2 (P := Tryz.prog) (t := 9) (k := i * 46) (j := 9) (u := .val (.string (acts.getD i act15Z).s.name)) 1 0 (by kernel_rfl) hR nth hpos
    have q5 := load_openG2 (P := Tryz.prog) (t := 60) (k := i * 46) (j := 9) (u := .val (.slice (acts.getD i act15Z).da.va (acts.getD i act15Z).dv.vals.length (acts.getD i act15Z).da.vc)) 6 7 (by kernel_rfl) hR nth hpos
    have q6 := load_openG3 (P := Tryz.prog) (t := 56) (k := i * 46) (j := 9) (u := .val (.slice (acts.getD i act15Z).da.la (acts.getD i act15Z).dv.s.legs.length (acts.getD i act15Z).da.lc)) 6 2 1 (by kernel_rfl) hR nth hpos
    have q7 := load_openG3 (P := Tryz.prog) (t := 57) (k := i * 46) (j := 9) (u := .val (.slice (acts.getD i act15Z).da.ta (acts.getD i act15Z).dv.s.taxes.length (acts.getD i act15Z).da.tc)) 6 2 3 (by kernel_rfl) hR nth hpos
    have q8 := load_openG3 (P := Tryz.prog) (t := 9) (k := i * 46) (j := 9) (u := .val (.string (acts.getD i act15Z).dv.s.name)) 6 2 0 (by kernel_rfl) hR nth hpos
    have q9 : IntKind.i64.wrap ((i : Int) + 1) = ((i + 1 : Nat) : Int) := by rw [wr_i64 (by omega)]; omega
    have bad : greatX (acts.getD i act15Z) = true → greatB15 acts = true := fun e => by
      unfold greatB15
      rw [List.any_eq_true.2 ⟨_, hin, e⟩, Bool.or_true]
    have good : greatX (acts.getD i act15Z) = false → ∀ j, j < i + 1 → greatX (acts.getD j act15Z) = false := fun e j hj => by
      by_cases q : j = i
      · subst q; exact e
      · exact hd j (by omega)
    generalize hx : acts.getD i act15Z = x at *
    rcases Bool.eq_false_or_eq_true (decide ((20 : Int) < (x.s.legs.length : Int))) with g1 | g1
    · rw [bad (by unfold greatX; rw [g1]; rfl)]
      exact leaf_end calNone false 400 [hB 4 3 _ _ q0, hG 6 2 q1, hG 6 5 q2, hB 6 7 _ _ g1] calNone_ok (by kernel_rfl)
    rcases Bool.eq_false_or_eq_true (decide ((20 : Int) < (x.s.taxes.length : Int))) with g2 | g2
    · rw [bad (by unfold greatX; rw [g1, g2]; rfl)]
      exact leaf_end calNone false 400 [hB 4 3 _ _ q0, hG 6 2 q1, hG 6 5 q2, hB 6 7 _ _ g1, hG 6 11 q1, hG 6 14 q3, hB 6 16 _ _ g2] calNone_ok (by kernel_rfl)
    rcases Bool.eq_false_or_eq_true (decide ((200 : Int) < (x.s.name.size : Int))) with g3 | g3
    · rw [bad (by unfold greatX; rw [g1, g2, g3]; rfl)]
      exact leaf_end calNone false 400 [hB 4 3 _ _ q0, hG 6 2 q1, hG 6 5 q2, hB 6 7 _ _ g1, hG 6 11 q1, hG 6 14 q3, hB 6 16 _ _ g2, hG 6 21 q1, hG 6 24 q4, hB 6 26 _ _ g3] calNone_ok (by kernel_rfl)
    rcases Bool.eq_false_or_eq_true (decide ((20 : Int) < (x.dv.vals.length : Int))) with g4 | g4
    · rw [bad (by unfold greatX; rw [g1, g2, g3, g4]; rfl)]
      exact leaf_end calNone false 400 [hB 4 3 _ _ q0, hG 6 2 q1, hG 6 5 q2, hB 6 7 _ _ g1, hG 6 11 q1, hG 6 14 q3, hB 6 16 _ _ g2, hG 6 21 q1, hG 6 24 q4, hB 6 26 _ _ g3, hG 6 31 q1, hG 6 34 q5, hB 6 36 _ _ g4] calNone_ok (by kernel_rfl)
    rcases Bool.eq_false_or_eq_true (decide ((20 : Int) < (x.dv.s.legs.length : Int))) with g5 | g5
    · rw [bad (by unfold greatX; rw [g1, g2, g3, g4, g5]; rfl)]
      exact leaf_end calNone false 400 [hB 4 3 _ _ q0, hG 6 2 q1, hG 6 5 q2, hB 6 7 _ _ g1, hG 6 11 q1, hG 6 14 q3, hB 6 16 _ _ g2, hG 6 21 q1, hG 6 24 q4, hB 6 26 _ _ g3, hG 6 31 q1, hG 6 34 q5, hB 6 36 _ _ g4, hG 6 41 q1, hG 6 45 q6, hB 6 47 _ _ g5] calNone_ok (by kernel_rfl)
    rcases Bool.eq_false_or_eq_true (decide ((20 : Int) < (x.dv.s.taxes.length : Int))) with g6 | g6
    · rw [bad (by unfold greatX; rw [g1, g2, g3, g4, g5, g6]; rfl)]
      exact leaf_end calNone false 400 [hB 4 3 _ _ q0, hG 6 2 q1, hG 6 5 q2, hB 6 7 _ _ g1, hG 6 11 q1, hG 6 14 q3, hB 6 16 _ _ g2, hG 6 21 q1, hG 6 24 q4, hB 6 26 _ _ g3, hG 6 31 q1, hG 6 34 q5, hB 6 36 _ _ g4, hG 6 41 q1, hG 6 45 q6, hB 6 47 _ _ g5, hG 6 52 q1, hG 6 56 q7, hB 6 58 _ _ g6] calNone_ok (by kernel_rfl)
    rcases Bool.eq_false_or_eq_true (decide ((200 : Int) < (x.dv.s.name.size : Int))) with g7 | g7
    · rw [bad (by unfold greatX; rw [g1, g2, g3, g4, g5, g6, g7]; rfl)]
      exact leaf_end calNone false 400 [hB 4 3 _ _ q0, hG 6 2 q1, hG 6 5 q2, hB 6 7 _ _ g1, hG 6 11 q1, hG 6 14 q3, hB 6 16 _ _ g2, hG 6 21 q1, hG 6 24 q4, hB 6 26 _ _ g3, hG 6 31 q1, hG 6 34 q5, hB 6 36 _ _ g4, hG 6 41 q1, hG 6 45 q6, hB 6 47 _ _ g5, hG 6 52 q1, hG 6 56 q7, hB 6 58 _ _ g6, hG 6 63 q1, hG 6 67 q8, hB 6 69 _ _ g7] calNone_ok (by kernel_rfl)
    have gg : greatX x = false := by unfold greatX; rw [g1, g2, g3, g4, g5, g6, g7]; rfl
    have hJ' := hJ ⟨i + 1, h, good gg⟩ (by show _ - (i + 1) < _ - i; omega)
    exact leaf_next calNone false 400 [hB 4 3 _ _ q0, hG 6 2 q1, hG 6 5 q2, hB 6 7 _ _ g1, hG 6 11 q1, hG 6 14 q3, hB 6 16 _ _ g2, hG 6 21 q1, hG 6 24 q4, hB 6 26 _ _ g3, hG 6 31 q1, hG 6 34 q5, hB 6 36 _ _ g4, hG 6 41 q1, hG 6 45 q6, hB 6 47 _ _ g5, hG 6 52 q1, hG 6 56 q7, hB 6 58 _ _ g6, hG 6 63 q1, hG 6 67 q8, hB 6 69 _ _ g7, hI 5 1 IntKind.i64 _ _ q9] calNone_ok hJ' (by kernel_rfl)
  · have q0 : decide ((i : Int) < (acts.length : Int)) = false := decide_eq_false (by omega)
    have e : greatB15 acts = false := by
      unfold greatB15
      rw [g, Bool.false_or, List.any_eq_false]
      intro x hx
      obtain ⟨j, hj, rfl⟩ := List.getElem_of_mem hx
      have := hd j (by omega)
      rw [List.getD_eq_getElem?_getD, List.getElem?_eq_getElem hj] at this
      simpa using this
    rw [e]
    exact leaf_end calNone false 400 [hB 4 3 _ _ q0] calNone_ok (by kernel_rfl)
theorem greatX_no {x : Act15} (h : greatX x = false) : x.s.legs.length ≤ 20 ∧ x.s.taxes.length ≤ 20 := by
  unfold greatX at h
  simp only [Bool.or_eq_false_iff, decide_eq_false_iff_not] at h
  omega
theorem greatB15_no {acts : List Act15} (h : greatB15 acts = false) : acts.length ≤ 150 ∧ ∀ x ∈ acts, x.s.legs.length ≤ 20 ∧ x.s.taxes.length ≤ 20 := by
  unfold greatB15 at h
  rw [Bool.or_eq_false_iff] at h
  refine ⟨by have := of_decide_eq_false h.1; omega, fun x hx => ?_⟩
  have := List.any_eq_false.1 h.2 x hx
  exact greatX_no (by simpa using this)
end Go.Proofs.YtlekbdpdlalhbaaGreat
end
section
namespace Go.Proofs.YtlekbdpdlalhbaaGreat
set_option maxRecDepth 100000
open Go.RowKit Go.Lib Go.Tk Go.Shelf Go.Vc Go.Sx
set_option linter.unusedVariables false
set_option linter.unusedSimpArgs false

structure BI (B : BookV) : Prop where
  ex : ExOk B
  hk : ∀ k h, lkt B.helds k = some h → B.badK k = false
  hl : B.helds.length ≤ 64
theorem putt_len {κ α : Type} [DecidableEq κ] (k : κ) (a : α) : ∀ L : List (κ × α), (putt L k a).length = if (lkt L k).isSome then L.length else L.length + 1
  | [] => rfl
  | p :: L => by
    show (if p.1 = k then (k, a) :: L else p :: putt L k a).length = _
    have e : lkt (p :: L) k = if p.1 = k then some p.2 else lkt L k := rfl
    rw [e]
    by_cases q : p.1 = k
    · rw [if_pos q, if_pos q]; rfl
    · rw [if_neg q, if_neg q, List.length_cons, putt_len k a L]
      split <;> rfl
theorem badK_same {B C : BookV} (h1 : C.self = B.self) (h2 : C.n = B.n) (k : Kid) : C.badK k = B.badK k := by unfold BookV.badK; rw [h1, h2]
theorem setH_same (B : BookV) (k : Kid) (h : HeldV) : (B.setH k h).docs = B.docs ∧ (B.setH k h).self = B.self ∧ (B.setH k h).n = B.n ∧ (B.setH k h).owns = B.owns := by
  unfold BookV.setH; cases decide (B.setHE k = 0) <;> exact ⟨rfl, rfl, rfl, rfl⟩
theorem ExOk.setH {B : BookV} (h : ExOk B) (k : Kid) (x : HeldV) : ExOk (B.setH k x) := by
  obtain ⟨e1, e2, e3, e4⟩ := setH_same B k x
  exact ⟨⟨by rw [e2, e3]; exact h.bk.self, by rw [e3]; exact h.bk.n, by rw [e1, e2]; exact h.bk.docs, by rw [e1]; exact h.bk.many⟩, by rw [e1]; exact h.sal, by rw [e1]; exact h.sm, by rw [e4]; exact h.own⟩
theorem setHE_cases (B : BookV) (k : Kid) : (B.setHE k = 1 ∧ B.badK k = true) ∨ (B.setHE k = 3 ∧ B.badK k = false ∧ lkt B.helds k = none ∧ 64 ≤ B.helds.length) ∨ (B.setHE k = 0 ∧ B.badK k = false ∧ ((lkt B.helds k).isSome = true ∨ B.helds.length < 64)) := by
  unfold BookV.setHE
  cases h1 : B.badK k
  · cases h2 : lkt B.helds k with
    | none =>
      rcases Bool.eq_false_or_eq_true (decide (64 ≤ B.helds.length)) with h3 | h3
      · rw [h3]; exact .inr (.inl ⟨rfl, rfl, rfl, of_decide_eq_true h3⟩)
      · rw [h3]; exact .inr (.inr ⟨rfl, rfl, .inr (by have := of_decide_eq_false h3; omega)⟩)
    | some x => exact .inr (.inr ⟨rfl, rfl, .inl rfl⟩)
  · exact .inl ⟨rfl, rfl⟩
theorem setH_ok {B : BookV} {k : Kid} (h : B.setHE k = 0) (x : HeldV) : B.setH k x = { B with helds := putt B.helds k x } := by unfold BookV.setH; rw [decide_eq_true h]; rfl
theorem setH_not {B : BookV} {k : Kid} (h : B.setHE k ≠ 0) (x : HeldV) : B.setH k x = B := by unfold BookV.setH; rw [decide_eq_false h]; rfl
theorem BI.setH {B : BookV} (h : BI B) (k : Kid) (x : HeldV) : BI (B.setH k x) := by
  obtain ⟨e1, e2, e3, e4⟩ := setH_same B k x
  refine ⟨h.ex.setH k x, fun k' y hy => ?_, ?_⟩
  · rw [badK_same e2 e3]
    rcases setHE_cases B k with ⟨g, -⟩ | ⟨g, -⟩ | ⟨g, gb, -⟩
    · rw [setH_not (by rw [g]; decide)] at hy; exact h.hk k' y hy
    · rw [setH_not (by rw [g]; decide)] at hy; exact h.hk k' y hy
    · rw [setH_ok g] at hy
      have hy : lkt (putt B.helds k x) k' = some y := hy
      rw [lkt_put] at hy
      by_cases q : k = k'
      · rw [← q]; exact gb
      · rw [if_neg q] at hy; exact h.hk k' y hy
  · rcases setHE_cases B k with ⟨g, -⟩ | ⟨g, -⟩ | ⟨g, gb, gl⟩
    · rw [setH_not (by rw [g]; decide)]; exact h.hl
    · rw [setH_not (by rw [g]; decide)]; exact h.hl
    · rw [setH_ok g]
      show (putt B.helds k x).length ≤ 64
      rw [putt_len]
      have := h.hl
      rcases gl with gl | gl
      · rw [if_pos gl]; exact this
      · split <;> omega
theorem BI.setO {B : BookV} (h : BI B) {k : Kid} {o : OwnV} (ho : OwnOk o) : BI (B.setO k o) := by
  obtain ⟨e1, e2, e3, e4⟩ := setO_same B k o
  exact ⟨h.ex.setO ho, by rw [e4]; intro k' y hy; rw [badK_same e2 e3]; exact h.hk k' y hy, by rw [e4]; exact h.hl⟩
theorem BI.issue {B : BookV} (h : BI B) {s : SaleV} (ok : SaleOk s) : BI (B.issue s) := by
  unfold BookV.issue
  rcases Bool.eq_false_or_eq_true (decide (B.issE s = 0)) with e | e <;> rw [e]
  · exact ⟨h.ex.issued ok (of_decide_eq_true e), h.hk, h.hl⟩
  · exact h
theorem new_bi (self n : Int) (h : 0 ≤ self ∧ self < n ∧ 2 ≤ n ∧ n ≤ 8) : BI (bookNew self n) := ⟨new_ex self n h, (fun k o e => by cases e), by show (0 : Nat) ≤ 64; decide⟩
theorem bookE_ok {self n : Int} (hs : 0 ≤ self) (h : bookE self n = 0) : 0 ≤ self ∧ self < n ∧ 2 ≤ n ∧ n ≤ 8 := by
  have h0 : (decide (n < 2) || (decide (8 < n) || decide (n ≤ self))) = false := by
    cases hb : (decide (n < 2) || (decide (8 < n) || decide (n ≤ self))) with
    | false => rfl
    | true => unfold bookE at h; rw [hb] at h; cases h
  simp only [Bool.or_eq_false_iff, decide_eq_false_iff_not] at h0
  omega
/-- what is done -/
def step15 (B : BookV) (x : Act15) : BookV := if x.d = 0 then B.issue x.s else if x.d = 2 then B.setO x.k x.o else if x.d = 3 then B.setH x.k x.h else B
def run15 (B : BookV) (acts : List Act15) : Nat → BookV
  | 0 => B
  | i + 1 => step15 (run15 B acts i) (acts.getD i act15Z)
theorem BI.step {B : BookV} (h : BI B) {x : Act15} (ok : SaleOk x.s) (ho : OwnOk x.o) : BI (step15 B x) := by
  unfold step15
  by_cases g0 : x.d = 0
  · rw [if_pos g0]; exact h.issue ok
  rw [if_neg g0]
  by_cases g2 : x.d = 2
  · rw [if_pos g2]; exact h.setO ho
  rw [if_neg g2]
  by_cases g3 : x.d = 3
  · rw [if_pos g3]; exact h.setH _ _
  rw [if_neg g3]; exact h
theorem setO_lk {B : BookV} {k : Kid} {o : OwnV} (k' : Kid) : lkt (B.setO k o).owns k' = if k = k' then (lkt B.owns k).map fun _ => o else lkt B.owns k' := by
  cases h : lkt B.owns k with
  | none =>
    rw [setO_none h]
    by_cases q : k = k'
    · rw [if_pos q, ← q, h]; rfl
    · rw [if_neg q]
  | some x =>
    rw [setO_some h]
    show lkt (putt B.owns k o) k' = _
    rw [lkt_put]
    by_cases q : k = k'
    · rw [if_pos q, if_pos q]; rfl
    · rw [if_neg q, if_neg q]
theorem setH_ne {B : BookV} {k k' : Kid} {x : HeldV} (h : k ≠ k') : lkt (B.setH k x).helds k' = lkt B.helds k' := by
  rcases setHE_cases B k with ⟨g, -⟩ | ⟨g, -⟩ | ⟨g, -⟩
  · rw [setH_not (by rw [g]; decide)]
  · rw [setH_not (by rw [g]; decide)]
  · rw [setH_ok g]
    show lkt (putt B.helds k x) k' = _
    rw [lkt_put, if_neg h]
def kidEq (a b : Kid) : Bool := (decide (a.t.c = b.t.c) && (decide (a.t.r = b.t.r) && true)) && (decide (a.i = b.i) && true)
theorem kidEq_iff (a b : Kid) : kidEq a b = true ↔ a = b := by
  obtain ⟨⟨a1, a2⟩, a3⟩ := a
  obtain ⟨⟨b1, b2⟩, b3⟩ := b
  simp [kidEq, and_assoc]
theorem kidEq_no {a b : Kid} (h : kidEq a b = false) : a ≠ b := fun e => by rw [(kidEq_iff a b).2 e] at h; cases h
end Go.Proofs.YtlekbdpdlalhbaaGreat
end
