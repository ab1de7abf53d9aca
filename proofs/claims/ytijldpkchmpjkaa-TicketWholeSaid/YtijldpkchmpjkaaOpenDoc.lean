/- Arguments opened: documents, lists of statuses, lists of bools. -/
import Derived.Test.YtijldpkchmpjkaaOpen
import Derived.Test.YtijldpkchmpjkaaBalPlain
namespace Go.Proofs.Ytijldpkchmpjkaa
open Go.RowKit Go.Lib Go.Tk Go.WideShapes

variable {H : Type} {enc : TypeId × Value → H} {w : World} {base : Nat} {spare : Nat → Bool} {held : Bool}

theorem len17 {cs : List Value} (h : cs.length = 17) : ∃ a b c d e f g i j k l m n o p q r, cs = [a, b, c, d, e, f, g, i, j, k, l, m, n, o, p, q, r] := by
  match cs, h with
  | [a, b, c, d, e, f, g, i, j, k, l, m, n, o, p, q, r], _ => exact ⟨a, b, c, d, e, f, g, i, j, k, l, m, n, o, p, q, r, rfl⟩

set_option maxRecDepth 100000 in
theorem ticket_cells {n : Nat} {cs : List Value} {y : DataW H × List MemPlace} (hl : cs.length = 2) (h : DataW.trod enc Try.prog w base spare held n 45 cs = some y) : ∃ c r, cs = [.int .u8 c, .int .u64 r] ∧ (0 ≤ c ∧ c ≤ 255) ∧ (0 ≤ r ∧ r ≤ 18446744073709551615) := by
  obtain ⟨_, m, hf⟩ := struct_fields Try.underlying45 h
  obtain ⟨c0, c1, rfl⟩ := len2 hl
  simp only [List.forall_mem_cons] at hf
  obtain ⟨⟨y0, h0⟩, ⟨y1, h1⟩, -⟩ := hf
  obtain ⟨a0, e0, w0⟩ := int_cell Try.underlying5 h0
  obtain ⟨a1, e1, w1⟩ := int_cell Try.underlying43 h1
  have f0 : c0 = .int .u8 a0 := by simpa [show Try.prog.cellsOf 5 = 1 by kernel_rfl] using e0
  have f1 : c1 = .int .u64 a1 := by simpa [show Try.prog.cellsOf 43 = 1 by kernel_rfl] using e1
  exact ⟨a0, a1, by rw [f0, f1], wfu8 w0, wfu64 w1⟩

set_option maxRecDepth 100000 in
theorem sale_cells {n : Nat} {cs : List Value} {y : DataW H × List MemPlace} (hl : cs.length = 5) (h : DataW.trod enc Try.prog w base spare held n 49 cs = some y) :
    ∃ s A, cs = [.string s.name, .slice A.la s.legs.length A.lc, .int .i64 s.fare, .slice A.ta s.taxes.length A.tc, .int .i64 s.pen] ∧ SaleAt w s A ∧ SaleW s := by
  obtain ⟨_, m, hf⟩ := struct_fields Try.underlying49 h
  obtain ⟨c0, c1, c2, c3, c4, rfl⟩ := len5 hl
  simp only [List.forall_mem_cons] at hf
  obtain ⟨⟨y0, h0⟩, ⟨y1, h1⟩, ⟨y2, h2⟩, ⟨y3, h3⟩, ⟨y4, h4⟩, -⟩ := hf
  obtain ⟨a0, e0, w0⟩ := string_cell Try.underlying9 h0
  have h1' : DataW.trod enc Try.prog w base spare held m 46 [c1] = some y1 := by simpa [show Try.prog.cellsOf 46 = 1 by kernel_rfl] using h1
  obtain ⟨a1, l1, k1, e1, r1, n1, m1, o1⟩ := legs_cell h1'
  obtain ⟨a2, e2, w2⟩ := int_cell Try.underlying2 h2
  have h3' : DataW.trod enc Try.prog w base spare held m 47 [c3] = some y3 := by simpa [show Try.prog.cellsOf 47 = 1 by kernel_rfl] using h3
  obtain ⟨a3, l3, k3, e3, r3, n3, m3, o3⟩ := taxes_cell h3'
  obtain ⟨a4, e4, w4⟩ := int_cell Try.underlying2 h4
  have f0 : c0 = .string a0 := by simpa [show Try.prog.cellsOf 9 = 1 by kernel_rfl] using e0
  have f2 : c2 = .int .i64 a2 := by simpa [show Try.prog.cellsOf 2 = 1 by kernel_rfl] using e2
  have f4 : c4 = .int .i64 a4 := by simpa [show Try.prog.cellsOf 2 = 1 by kernel_rfl] using e4
  exact ⟨⟨a0, l1, a2, l3, a4⟩, ⟨a1, k1, a3, k3⟩, by rw [f0, e1, f2, e3, f4], ⟨r1, r3, n1, n3⟩, ⟨w0, o1, o3, wfi64 w2, wfi64 w4, m1, m3⟩⟩

/-- a list of whole numbers -/
theorem ints_cell {t e : TypeId} {k : IntKind} {n : Nat} {v : Value} {y : DataW H × List MemPlace} (ht : Try.prog.underlying t = some (.slice e)) (he : Try.prog.underlying e = some (.int k)) (hc : Try.prog.cellsOf e = 1)
    (h : DataW.trod enc Try.prog w base spare held n t [v] = some y) :
    ∃ (a : Option Addr) (l : List Int) (c : Nat), v = .slice a l.length c ∧ Row w a (l.map (.int k)) ∧ (a = none → c = 0) ∧ l.length ≤ maxLen ∧ ∀ x ∈ l, (Lit.int k x).wf = true := by
  obtain ⟨a, len, cap, rows, rfl, hlen, hrows, hr, hn, hm, _⟩ := slice_rows (fun cs => ∃ x : Int, [.int k x] = cs ∧ (Lit.int k x).wf = true) ht hc (by decide) (fun n cs y hl h => by obtain ⟨x, e, w⟩ := int_cell he h; exact ⟨x, e.symm, w⟩) h
  obtain ⟨l, hl⟩ := listOf (enc := fun x : { x : Int // (Lit.int k x).wf = true } => [Value.int k x.1]) (Q := fun cs => ∃ x : Int, [Value.int k x] = cs ∧ (Lit.int k x).wf = true) (fun r ⟨x, hx, hk⟩ => ⟨⟨x, hk⟩, hx⟩) rows (fun r hr => (hrows r hr).2)
  have hl2 : (l.map (·.1)).map (fun x => [Value.int k x]) = rows := by rw [List.map_map]; exact hl
  have hl3 : (l.map (·.1)).length = len := by rw [← hlen, ← hl2]; simp
  have hl4 : rows.flatten = (l.map (·.1)).map (.int k) := by
    rw [← hl2]
    generalize l.map (·.1) = z
    induction z with
    | nil => rfl
    | cons x r ih => simp [ih]
  refine ⟨a, l.map (·.1), cap, by rw [hl3], ?_, hn, by rw [hl3]; exact hm, fun x hx => ?_⟩
  · rw [← hl4]; exact hr
  · obtain ⟨z, _, rfl⟩ := List.mem_map.1 hx; exact z.2

/-- a list of bools: how long it is -/
theorem bools_cell {t e : TypeId} {n : Nat} {v : Value} {y : DataW H × List MemPlace} (ht : Try.prog.underlying t = some (.slice e)) (he : Try.prog.underlying e = some .bool) (hc : Try.prog.cellsOf e = 1)
    (h : DataW.trod enc Try.prog w base spare held n t [v] = some y) :
    ∃ (a : Option Addr) (l : List Bool) (c : Nat), v = .slice a l.length c ∧ Row w a (l.map .bool) ∧ (a = none → c = 0) ∧ l.length ≤ maxLen := by
  obtain ⟨a, len, cap, rows, rfl, hlen, hrows, hr, hn, hm, _⟩ := slice_rows (fun cs => ∃ x : Bool, [.bool x] = cs) ht hc (by decide) (fun n cs y hl h => by obtain ⟨x, e⟩ := bool_cell he h; exact ⟨x, e.symm⟩) h
  obtain ⟨l, hl⟩ := listOf (enc := fun x : Bool => [Value.bool x]) (Q := fun cs => ∃ x : Bool, [Value.bool x] = cs) (fun r ⟨x, hx⟩ => ⟨x, hx⟩) rows (fun r hr => (hrows r hr).2)
  have hl3 : l.length = len := by rw [← hlen, ← hl]; simp
  have hl4 : rows.flatten = l.map .bool := by
    rw [← hl]
    clear hl hl3
    induction l with
    | nil => rfl
    | cons x r ih => simp [ih]
  exact ⟨a, l, cap, by rw [hl3], by rw [← hl4]; exact hr, hn, by rw [hl3]; exact hm⟩

set_option maxRecDepth 100000 in
theorem open_doc {r : Reach} {b0 : Nat} {v : Value} {d : DataW H} {p : List MemPlace} (hv : Value.okWide Try.prog w r b0 54 v) (h : DataW.Trod enc Try.prog w base spare held 54 v d p) :
    ∃ x D, v = docAgg x D ∧ DocAt w x D ∧ DocOk x ∧ SaleW x.s ∧ x.vals.length ≤ maxLen := by
  obtain ⟨cs, rfl, hl, m, hf⟩ := agg_cells Try.underlying54 hv h
  rw [show Try.prog.cellsOf 54 = 17 by kernel_rfl] at hl
  obtain ⟨c0, c1, c2, c3, c4, c5, c6, c7, c8, c9, c10, c11, c12, c13, c14, c15, c16, rfl⟩ := len17 hl
  simp only [List.forall_mem_cons] at hf
  obtain ⟨⟨y0, h0⟩, ⟨y1, h1⟩, ⟨y2, h2⟩, ⟨y3, h3⟩, ⟨y4, h4⟩, ⟨y5, h5⟩, ⟨y6, h6⟩, ⟨y7, h7⟩, ⟨y8, h8⟩, ⟨y9, h9⟩, -⟩ := hf
  have h0' : DataW.trod enc Try.prog w base spare held m 45 [c0, c1] = some y0 := by simpa [show Try.prog.cellsOf 45 = 2 by kernel_rfl] using h0
  have h1' : DataW.trod enc Try.prog w base spare held m 49 [c2, c3, c4, c5, c6] = some y1 := by simpa [show Try.prog.cellsOf 49 = 5 by kernel_rfl] using h1
  have h2' : DataW.trod enc Try.prog w base spare held m 27 [c7] = some y2 := by simpa [show Try.prog.cellsOf 27 = 1 by kernel_rfl] using h2
  have h3' : DataW.trod enc Try.prog w base spare held m 45 [c8, c9] = some y3 := by simpa [show Try.prog.cellsOf 45 = 2 by kernel_rfl] using h3
  have h4' : DataW.trod enc Try.prog w base spare held m 45 [c10, c11] = some y4 := by simpa [show Try.prog.cellsOf 45 = 2 by kernel_rfl] using h4
  obtain ⟨tc, tr, e0, _, _⟩ := ticket_cells rfl h0'
  obtain ⟨s, A, e1, at1, sw1⟩ := sale_cells rfl h1'
  obtain ⟨va, vl, vc, e2, r2, _, m2, o2⟩ := ints_cell Try.underlying27 Try.underlying2 (by kernel_rfl) h2'
  obtain ⟨fc, fr, e3, _, _⟩ := ticket_cells rfl h3'
  obtain ⟨gc, gr, e4, _, _⟩ := ticket_cells rfl h4'
  obtain ⟨a5, e5, w5⟩ := int_cell Try.underlying2 h5
  obtain ⟨a6, e6, w6⟩ := int_cell Try.underlying2 h6
  obtain ⟨a7, e7, w7⟩ := int_cell Try.underlying2 h7
  obtain ⟨a8, e8, w8⟩ := int_cell Try.underlying2 h8
  obtain ⟨a9, e9, w9⟩ := int_cell Try.underlying2 h9
  have f5 : c12 = .int .i64 a5 := by simpa [show Try.prog.cellsOf 2 = 1 by kernel_rfl] using e5
  have f6 : c13 = .int .i64 a6 := by simpa [show Try.prog.cellsOf 2 = 1 by kernel_rfl] using e6
  have f7 : c14 = .int .i64 a7 := by simpa [show Try.prog.cellsOf 2 = 1 by kernel_rfl] using e7
  have f8 : c15 = .int .i64 a8 := by simpa [show Try.prog.cellsOf 2 = 1 by kernel_rfl] using e8
  have f9 : c16 = .int .i64 a9 := by simpa [show Try.prog.cellsOf 2 = 1 by kernel_rfl] using e9
  simp only [List.cons.injEq, and_true] at e0 e1 e3 e4
  obtain ⟨rfl, rfl⟩ := e0
  obtain ⟨rfl, rfl, rfl, rfl, rfl⟩ := e1
  obtain ⟨rfl, rfl⟩ := e3
  obtain ⟨rfl, rfl⟩ := e4
  subst e2 f5 f6 f7 f8 f9
  exact ⟨⟨tc, tr, s, vl, fc, fr, gc, gr, a5, a6, a7, a8, a9⟩, ⟨A, va, vc⟩, rfl, ⟨at1, r2⟩, ⟨fun x hx => wfi64 (o2 x hx), wfi64 w5, wfi64 w6, wfi64 w7, wfi64 w8, wfi64 w9⟩, sw1, m2⟩
end Go.Proofs.Ytijldpkchmpjkaa
