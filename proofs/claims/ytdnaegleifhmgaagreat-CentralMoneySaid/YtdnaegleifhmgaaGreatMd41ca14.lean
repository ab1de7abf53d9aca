/- Ce29, Open, Flat. -/
import Derived.Test.YtdnaegleifhmgaaGreatMfcacc41
import Derived.Test.YtdnaegleifhmgaaGreatM9812743
import Derived.Test.YtdnaegleifhmgaaGreatM7ce3b18
import Derived.Test.YtdnaegleifhmgaaGreatMb6a2934
import Derived.WideShapes
import Derived.Lib.SmallJoins
import Derived.Test.YtdnaegleifhmgaaGreatM12d9068
set_option maxRecDepth 100000
set_option linter.unusedVariables false
set_option linter.unusedSimpArgs false
set_option linter.unusedSectionVars false
section
namespace Go.Proofs.YtdnaegleifhmgaaGreat
open Go.RowKit Go.Lib Go.Tk Go.Shelf Go.Vc Go.Sx Go.Maps Go.Sort
def cmtX (c : CmtV) (x y : SV) : List SV := [.val (.int .u8 c.car), .val (.int .u8 c.kind), .val (.int .u8 c.cmd.kind), .val (.int .u8 c.cmd.t.c), .val (.int .u64 c.cmd.t.r), .val (.int .u8 c.cmd.i)] ++ salS c.cmd.s x y ++ [.val (.int .i64 c.cmd.amt), .val (.int .u8 c.src), .val (.int .u64 c.num)] ++ msS c.m
theorem cmt_args (c : CmtV) : ∀ ε ε' x y x' y', SV.den ε x = SV.den ε' x' → SV.den ε y = SV.den ε' y' → (∀ s k, noTen s k = true → ε s k = ε' s k) → SV.dens ε [.ptr 0 0 0, .agg (cmtX c x y)] = SV.dens ε' [.ptr 0 0 0, .agg (cmtX c x' y')] := fun ε ε' x y x' y' h1 h2 h3 => by
  simp only [SV.dens, SV.den, cmtX, salS, msS, List.cons_append, List.nil_append, h1, h2, h3 0 0 rfl]
theorem step_D {B : LedV} (hb : LedG B) {c : CmtV} (h : CmtWf c) {q : CR} (hq : StR B c = q) :
    CallOK Tryz.prog StepLF [.ptr 0 0 0, .agg (cmtX c (.raw 0 10) (.raw 0 11))] [((0, 10), legD c.cmd.s.legs.length c.cmd.s.legs), ((0, 11), taxD c.cmd.s.taxes.length c.cmd.s.taxes)] (ledC B) (stV' q) (ledC q.b ++ [((1, 0), stVL q.st)]) := by
  subst hq
  exact raw2 (args := fun x y => [.ptr 0 0 0, .agg (cmtX c x y)]) (cmt_args c) (fun F A hl ht h1 h2 => step_c F hb h hl ht h1 h2) rfl rfl rfl
def msg0 : MsV := ⟨0, ⟨⟨0, 0⟩, 0⟩, ⟨⟨0, 0, 0⟩, 0, 0, 0⟩, 0, 0⟩
def sale0' : SaleV := ⟨⟨#[]⟩, [], 0, [], 0⟩
def cmd0 : CmdV := ⟨0, ⟨0, 0⟩, 0, sale0', 0⟩
def CommitF : Nat := 23
def HearsF : Nat := 24
def cmtC (c kind : Int) (t : Tid) (s : SaleV) : CmtV := ⟨c, 1, ⟨kind, t, 0, s, 0⟩, 0, 0, msg0⟩
def cmtH (c src : Int) (m : MsV) : CmtV := ⟨c, 2, cmd0, src, 1, m⟩
theorem commit_a (c kind : Int) (t : Tid) (s : SaleV) : CallOK Tryz.prog CommitF [.val (.int .u8 c), .val (.int .u8 kind), .agg (tidS t), .agg (salS s (.raw 0 10) nilS)] [] [] (.agg (cmtX (cmtC c kind t s) (.raw 0 10) nilS)) [] := callOK_run 400 [] (by kernel_rfl) (by kernel_rfl)
theorem commit_b (c kind : Int) (t : Tid) (s : SaleV) : CallOK Tryz.prog CommitF [.val (.int .u8 c), .val (.int .u8 kind), .agg (tidS t), .agg (salS s nilS nilS)] [] [] (.agg (cmtX (cmtC c kind t s) nilS nilS)) [] := callOK_run 400 [] (by kernel_rfl) (by kernel_rfl)
theorem hears_w (c src : Int) (m : MsV) : CallOK Tryz.prog HearsF [.val (.int .u8 c), .val (.int .u8 src), .agg (msS m)] [] [] (.agg (cmtX (cmtH c src m) nilS nilS)) [] := callOK_run 400 [] (by kernel_rfl) (by kernel_rfl)
def saleW : SaleV := ⟨⟨#[68, 79, 69, 47, 74]⟩, [⟨1, 0, 1⟩], 70, [], 0⟩
theorem saleW_ok : SaleOk saleW where
  name := by unfold maxLen; show (5 : Nat) ≤ _; decide
  legs := by intro l hl; simp [saleW] at hl; rcases hl with rfl; (unfold LegOk; decide)
  taxes := by intro t ht; cases ht
  fare := by decide
  pen := by decide
  nl := by decide
  nt := by decide
theorem sale0_ok : SaleOk sale0' where
  name := by unfold maxLen; show (0 : Nat) ≤ _; decide
  legs := by intro l hl; cases hl
  taxes := by intro t ht; cases ht
  fare := by decide
  pen := by decide
  nl := by decide
  nt := by decide
def tW : Tid := ⟨0, 1⟩
def kW : Kid := ⟨tW, 0⟩
theorem sort_W : Go.Tk.sortL (restsL 70 1 [1]) = [(0, 0)] := by
  refine (sortL_unique ?_ ?_).symm
  · decide
  · decide
theorem share_W : shareV saleW.fare (wsOf saleW) = [70] := by
  show shareV 70 [1] = [70]
  have e : shareE 70 [1] = 0 := by decide
  unfold shareV
  rw [if_pos e]
  unfold shareL chosen
  have hs : ([1] : List Int).sum = 1 := by decide
  rw [hs, sort_W]
  decide
def LW (p : PlaceV) : LedV := ⟨2, [⟨tW, saleW, [70], ⟨0, 0⟩, ⟨0, 0⟩, 0, 70, 0, 0, 0⟩], [(kW, ⟨p, ⟨1, 0, 1⟩, 70⟩)]⟩
def cW1 : CmtV := cmtC 0 1 ⟨0, 0⟩ saleW
def mW2 : MsV := ⟨1, kW, ⟨⟨0, 0, 0⟩, 0, 0, 0⟩, 0, 0⟩
def mW3 : MsV := ⟨2, kW, ⟨⟨0, 0, 0⟩, 0, 0, 1⟩, 0, 0⟩
def mW7 : MsV := ⟨6, kW, ⟨⟨0, 0, 0⟩, 0, 0, 0⟩, 70, 0⟩
theorem stW1 : StR (ledNew 2) cW1 = ⟨0, tW, 70, [.int .u8 1], LW ⟨kW, false, 0, 1, 0, false⟩⟩ := by
  show stepR (ceSell (ledNew 2) (cntC [] 0) 0 saleW) = _
  unfold ceSell
  rw [show decide (issLE (cntC [] 0) (ledNew 2).n 0 saleW = 0) = true by kernel_rfl]
  show stepR (toldC (issB (ledNew 2) tW saleW) tW (cpriceI saleW) (shareV saleW.fare (wsOf saleW)).length) = _
  unfold issB docMade
  rw [share_W]
  kernel_rfl
theorem stW2 : StR (LW ⟨kW, false, 0, 1, 0, false⟩) (cmtH 0 1 mW2) = ⟨0, tid0, 0, [], LW ⟨kW, true, 1, 1, 1, false⟩⟩ := by kernel_rfl
theorem stW3 : StR (LW ⟨kW, true, 1, 1, 1, false⟩) (cmtH 1 0 mW3) = ⟨0, tid0, 0, [], LW ⟨kW, false, 1, 1, 1, false⟩⟩ := by kernel_rfl
theorem stW4 : StR (LW ⟨kW, false, 1, 1, 1, false⟩) (cmtC 1 9 tW sale0') = ⟨0, tW, 0, [], LW ⟨kW, false, 1, 2, 1, false⟩⟩ := by kernel_rfl
theorem stW5 : StR (LW ⟨kW, false, 1, 2, 1, false⟩) (cmtC 1 11 tW sale0') = ⟨0, tW, 0, [], LW ⟨kW, false, 1, 3, 1, false⟩⟩ := by kernel_rfl
theorem stW6 : StR (LW ⟨kW, false, 1, 3, 1, false⟩) (cmtC 1 12 tW sale0') = ⟨0, tW, 0, [], LW ⟨kW, false, 1, 4, 1, false⟩⟩ := by kernel_rfl
theorem stW7 : StR (LW ⟨kW, false, 1, 4, 1, false⟩) (cmtH 0 1 mW7) = ⟨0, tid0, 0, [], LW ⟨kW, false, 1, 4, 1, true⟩⟩ := by kernel_rfl
theorem stW8 : StR (LW ⟨kW, false, 1, 4, 1, true⟩) (cmtC 0 4 tW sale0') = ⟨6, tid0, 0, [], LW ⟨kW, false, 1, 4, 1, true⟩⟩ := by kernel_rfl
theorem wfC {c kind : Int} {t : Tid} {s : SaleV} (h1 : 0 ≤ c ∧ c ≤ 255) (h2 : 0 ≤ kind ∧ kind ≤ 255) (h3 : TidOk t) (h4 : SaleOk s) : CmtWf (cmtC c kind t s) :=
  { car := h1, kind := (by decide : (0 : Int) ≤ 1 ∧ (1 : Int) ≤ 255), src := (by decide : (0 : Int) ≤ 0 ∧ (0 : Int) ≤ 255), ck := h2, ct := h3, ci := (by decide : (0 : Int) ≤ 0 ∧ (0 : Int) ≤ 255), sale := h4, key := (⟨⟨by decide, by decide⟩, by decide⟩ : KidOk msg0.key) }
theorem wfH {c src : Int} {m : MsV} (h1 : 0 ≤ c ∧ c ≤ 255) (h2 : 0 ≤ src ∧ src ≤ 255) (h3 : KidOk m.key) : CmtWf (cmtH c src m) :=
  { car := h1, kind := (by decide : (0 : Int) ≤ 2 ∧ (2 : Int) ≤ 255), src := h2, ck := (by decide : (0 : Int) ≤ 0 ∧ (0 : Int) ≤ 255), ct := (⟨by decide, by decide⟩ : TidOk ⟨0, 0⟩), ci := (by decide : (0 : Int) ≤ 0 ∧ (0 : Int) ≤ 255), sale := sale0_ok, key := h3 }
theorem tW_ok : TidOk tW := ⟨by decide, by decide⟩
theorem kW_ok : KidOk kW := ⟨tW_ok, by decide⟩
theorem next_g {B : LedV} (h : LedG B) {c : CmtV} (hc : CmtWf c) {q : CR} (hq : StR B c = q) : LedG q.b := by rw [← hq]; exact (StR_ok h hc).g
theorem sortBy_one {α : Type} (cf : α → α → Int) (x : α) : sortBy cf [x] = [x] := List.perm_singleton.1 (sortBy_perm cf [x])
theorem placesW (p : PlaceV) (hp : p.key = kW) : CallOK Tryz.prog PlacesF [.ptr 0 0 0] [] (ledC (LW p)) (.raw 1 0) (ledC (LW p) ++ [((1, 0), .row 61 8 1 (.shal (placeL p)) [])]) := by
  have h := places_w (LW p) (by simp [LW]) (fun q hq => by
    have hq : q = (kW, ⟨p, ⟨1, 0, 1⟩, 70⟩) := List.mem_singleton.1 hq
    rw [hq]; exact hp) (by show (1 : Nat) ≤ _; decide)
  have e : placesR (LW p) = .row 61 8 1 (.shal (placeL p)) [] := by
    unfold placesR
    show SC.row _ 8 1 (.shal (cellsL (encP (LW p).slips) (sortBy cfK [kW]))) [] = _
    rw [sortBy_one]
    obtain ⟨key, way, car, st, non, paid⟩ := p
    have hp : key = kW := hp
    subst hp
    rfl
  rw [e] at h
  exact h
def Wakes24F : Nat := 9
theorem wakes24_w : CallOK Tryz.prog Wakes24F [] [] [] (.val (.bool true)) [] := by
  have n1 := lnew_ok (n := 2) (by decide)
  have g0 : LedG (ledNew 2) := new_ok (by decide)
  have f1 : CmtWf cW1 := wfC (by decide) (by decide) ⟨by decide, by decide⟩ saleW_ok
  have s1 := step_D g0 f1 stW1
  have g1 := next_g g0 f1 stW1
  have f2 : CmtWf (cmtH 0 1 mW2) := wfH (by decide) (by decide) kW_ok
  have s2 := step_D g1 f2 stW2
  have g2 := next_g g1 f2 stW2
  have f3 : CmtWf (cmtH 1 0 mW3) := wfH (by decide) (by decide) kW_ok
  have s3 := step_D g2 f3 stW3
  have g3 := next_g g2 f3 stW3
  have f4 : CmtWf (cmtC 1 9 tW sale0') := wfC (by decide) (by decide) tW_ok sale0_ok
  have s4 := step_D g3 f4 stW4
  have g4 := next_g g3 f4 stW4
  have f5 : CmtWf (cmtC 1 11 tW sale0') := wfC (by decide) (by decide) tW_ok sale0_ok
  have s5 := step_D g4 f5 stW5
  have g5 := next_g g4 f5 stW5
  have f6 : CmtWf (cmtC 1 12 tW sale0') := wfC (by decide) (by decide) tW_ok sale0_ok
  have s6 := step_D g5 f6 stW6
  have g6 := next_g g5 f6 stW6
  have f7 : CmtWf (cmtH 0 1 mW7) := wfH (by decide) (by decide) kW_ok
  have s7 := step_D g6 f7 stW7
  have g7 := next_g g6 f7 stW7
  have f8 : CmtWf (cmtC 0 4 tW sale0') := wfC (by decide) (by decide) tW_ok sale0_ok
  have s8 := step_D g7 f8 stW8
  have p1 := placesW ⟨kW, true, 1, 1, 1, false⟩ rfl
  have p2 := placesW ⟨kW, false, 1, 4, 1, true⟩ rfl
  have k1 := commit_a 0 1 ⟨0, 0⟩ saleW
  have k2 := hears_w 0 1 mW2
  have k3 := hears_w 1 0 mW3
  have k4 := commit_b 1 9 tW sale0'
  have k5 := commit_b 1 11 tW sale0'
  have k6 := commit_b 1 12 tW sale0'
  have k7 := hears_w 0 1 mW7
  have k8 := commit_b 0 4 tW sale0'
  exact callOK_run 900 [hC 1 0 n1, hC 5 3 k1, hC 5 4 s1, hC 7 3 k2, hC 7 4 s2, hC 8 1 p1, hC 9 4 k3, hC 9 5 s3, hC 10 4 k4, hC 10 5 s4, hC 11 4 k5, hC 11 5 s5, hC 12 4 k6, hC 12 5 s6, hC 13 3 k7, hC 13 4 s7, hC 14 1 p2, hC 15 4 k8, hC 15 5 s8] (by kernel_rfl) (by kernel_rfl)
end Go.Proofs.YtdnaegleifhmgaaGreat
end
section
namespace Go.Proofs.YtdnaegleifhmgaaGreat
open Go.RowKit Go.Lib Go.Tk Go.WideShapes Go.Joins Go.ChangeShapes
structure SaleW (s : SaleV) : Prop where
  name : s.name.size ≤ maxLen
  legs : ∀ l ∈ s.legs, LegOk l
  taxes : ∀ t ∈ s.taxes, TaxOk t
  fare : -9223372036854775808 ≤ s.fare ∧ s.fare ≤ 9223372036854775807
  pen : -9223372036854775808 ≤ s.pen ∧ s.pen ≤ 9223372036854775807
  nl : s.legs.length ≤ maxLen
  nt : s.taxes.length ≤ maxLen
theorem SaleW.small {s : SaleV} (h : SaleW s) (h1 : s.legs.length ≤ 1000) (h2 : s.taxes.length ≤ 1000) : SaleOk s := ⟨h.name, h.legs, h.taxes, h.fare, h.pen, h1, h2⟩
theorem wfi64 {a : Int} (h : (Lit.int .i64 a).wf = true) : -9223372036854775808 ≤ a ∧ a ≤ 9223372036854775807 := by
  simpa [Lit.wf, IntKind.min, IntKind.max, IntKind.signed, IntKind.bits] using h
theorem wfu8 {a : Int} (h : (Lit.int .u8 a).wf = true) : 0 ≤ a ∧ a ≤ 255 := by
  simpa [Lit.wf, IntKind.min, IntKind.max, IntKind.signed, IntKind.bits] using h
theorem wfu16 {a : Int} (h : (Lit.int .u16 a).wf = true) : 0 ≤ a ∧ a ≤ 65535 := by
  simpa [Lit.wf, IntKind.min, IntKind.max, IntKind.signed, IntKind.bits] using h
theorem wfu32 {a : Int} (h : (Lit.int .u32 a).wf = true) : 0 ≤ a ∧ a ≤ 4294967295 := by
  simpa [Lit.wf, IntKind.min, IntKind.max, IntKind.signed, IntKind.bits] using h
theorem wfu64 {a : Int} (h : (Lit.int .u64 a).wf = true) : 0 ≤ a ∧ a ≤ 18446744073709551615 := by
  simpa [Lit.wf, IntKind.min, IntKind.max, IntKind.signed, IntKind.bits] using h
theorem len2 {cs : List Value} (h : cs.length = 2) : ∃ a b, cs = [a, b] := by
  match cs, h with
  | [a, b], _ => exact ⟨a, b, rfl⟩
theorem len3 {cs : List Value} (h : cs.length = 3) : ∃ a b c, cs = [a, b, c] := by
  match cs, h with
  | [a, b, c], _ => exact ⟨a, b, c, rfl⟩
variable {H : Type} {enc : TypeId × Value → H} {w : World} {base : Nat} {spare : Nat → Bool} {held : Bool}
set_option maxRecDepth 100000 in
theorem leg_cells {n : Nat} {cs : List Value} {y : DataW H × List MemPlace} (hl : cs.length = 3) (h : DataW.trod enc Tryz.prog w base spare held n 43 cs = some y) : ∃ l : Leg, encLeg l = cs ∧ LegOk l := by
  obtain ⟨_, m, hf⟩ := struct_fields Tryz.underlying43 h
  obtain ⟨c0, c1, c2, rfl⟩ := len3 hl
  simp only [List.forall_mem_cons] at hf
  obtain ⟨⟨y0, h0⟩, ⟨y1, h1⟩, ⟨y2, h2⟩, -⟩ := hf
  obtain ⟨a0, e0, w0⟩ := int_cell Tryz.underlying5 h0
  obtain ⟨a1, e1, w1⟩ := int_cell Tryz.underlying40 h1
  obtain ⟨a2, e2, w2⟩ := int_cell Tryz.underlying41 h2
  have f0 : c0 = .int .u8 a0 := by simpa [show Tryz.prog.cellsOf 5 = 1 by kernel_rfl] using e0
  have f1 : c1 = .int .u16 a1 := by simpa [show Tryz.prog.cellsOf 40 = 1 by kernel_rfl] using e1
  have f2 : c2 = .int .u32 a2 := by simpa [show Tryz.prog.cellsOf 41 = 1 by kernel_rfl] using e2
  exact ⟨⟨a0, a1, a2⟩, by rw [f0, f1, f2]; rfl, wfu8 w0, wfu16 w1, wfu32 w2⟩
set_option maxRecDepth 100000 in
theorem tax_cells {n : Nat} {cs : List Value} {y : DataW H × List MemPlace} (hl : cs.length = 2) (h : DataW.trod enc Tryz.prog w base spare held n 126 cs = some y) : ∃ l : Tax, encTax l = cs ∧ TaxOk l := by
  obtain ⟨_, m, hf⟩ := struct_fields Tryz.underlying126 h
  obtain ⟨c0, c1, rfl⟩ := len2 hl
  simp only [List.forall_mem_cons] at hf
  obtain ⟨⟨y0, h0⟩, ⟨y1, h1⟩, -⟩ := hf
  obtain ⟨a0, e0, w0⟩ := string_cell Tryz.underlying9 h0
  obtain ⟨a1, e1, w1⟩ := int_cell Tryz.underlying2 h1
  have f0 : c0 = .string a0 := by simpa [show Tryz.prog.cellsOf 9 = 1 by kernel_rfl] using e0
  have f1 : c1 = .int .i64 a1 := by simpa [show Tryz.prog.cellsOf 2 = 1 by kernel_rfl] using e1
  exact ⟨⟨a0, a1⟩, by rw [f0, f1]; rfl, w0, wfi64 w1⟩
theorem legs_cell {n : Nat} {v : Value} {y : DataW H × List MemPlace} (h : DataW.trod enc Tryz.prog w base spare held n 32 [v] = some y) :
    ∃ (a : Option Addr) (l : List Leg) (c : Nat), v = .slice a l.length c ∧ Row w a (cellsL encLeg l) ∧ (a = none → c = 0) ∧ l.length ≤ maxLen ∧ ∀ x ∈ l, LegOk x := by
  obtain ⟨a, len, cap, rows, rfl, hlen, hrows, hr, hn, hm, _⟩ := slice_rows (fun cs => ∃ l : Leg, encLeg l = cs ∧ LegOk l) Tryz.underlying32 (show Tryz.prog.cellsOf 43 = 3 by kernel_rfl) (by decide) (fun n cs y hl h => leg_cells hl h) h
  obtain ⟨l, hl⟩ := listOf (enc := fun x : { x : Leg // LegOk x } => encLeg x.1) (Q := fun cs => ∃ l : Leg, encLeg l = cs ∧ LegOk l) (fun r ⟨x, hx, hk⟩ => ⟨⟨x, hk⟩, hx⟩) rows (fun r hr => (hrows r hr).2)
  have hl2 : (l.map (·.1)).map encLeg = rows := by rw [List.map_map]; exact hl
  have hl3 : (l.map (·.1)).length = len := by rw [← hlen, ← hl2]; simp
  refine ⟨a, l.map (·.1), cap, by rw [hl3], ?_, hn, by rw [hl3]; exact hm, fun x hx => ?_⟩
  · unfold cellsL; rw [hl2]; exact hr
  · obtain ⟨z, _, rfl⟩ := List.mem_map.1 hx; exact z.2
theorem taxes_cell {n : Nat} {v : Value} {y : DataW H × List MemPlace} (h : DataW.trod enc Tryz.prog w base spare held n 33 [v] = some y) :
    ∃ (a : Option Addr) (l : List Tax) (c : Nat), v = .slice a l.length c ∧ Row w a (cellsL encTax l) ∧ (a = none → c = 0) ∧ l.length ≤ maxLen ∧ ∀ x ∈ l, TaxOk x := by
  obtain ⟨a, len, cap, rows, rfl, hlen, hrows, hr, hn, hm, _⟩ := slice_rows (fun cs => ∃ l : Tax, encTax l = cs ∧ TaxOk l) Tryz.underlying33 (show Tryz.prog.cellsOf 126 = 2 by kernel_rfl) (by decide) (fun n cs y hl h => tax_cells hl h) h
  obtain ⟨l, hl⟩ := listOf (enc := fun x : { x : Tax // TaxOk x } => encTax x.1) (Q := fun cs => ∃ l : Tax, encTax l = cs ∧ TaxOk l) (fun r ⟨x, hx, hk⟩ => ⟨⟨x, hk⟩, hx⟩) rows (fun r hr => (hrows r hr).2)
  have hl2 : (l.map (·.1)).map encTax = rows := by rw [List.map_map]; exact hl
  have hl3 : (l.map (·.1)).length = len := by rw [← hlen, ← hl2]; simp
  refine ⟨a, l.map (·.1), cap, by rw [hl3], ?_, hn, by rw [hl3]; exact hm, fun x hx => ?_⟩
  · unfold cellsL; rw [hl2]; exact hr
  · obtain ⟨z, _, rfl⟩ := List.mem_map.1 hx; exact z.2
end Go.Proofs.YtdnaegleifhmgaaGreat
end
section
namespace Go.Tk
open Go.RowKit Go.Lib Go.WideShapes
variable {H : Type} {enc : TypeId × Value → H} {P : Program} {w : World} {base : Nat} {spare : Nat → Bool} {held : Bool}
def flatF (P : Program) (rec : TypeId → Option (List TypeId)) (stop : Nat) : List Field → Nat → Option (List TypeId)
  | [], o => if o = stop then some [] else none
  | fd :: fs, o => if fd.offset = o then (rec fd.type).bind fun ks => (flatF P rec stop fs (o + P.cellsOf fd.type)).map fun r => ks ++ r else none
def flatT (P : Program) : Nat → TypeId → Option (List TypeId)
  | 0, _ => none
  | f + 1, t => match P.underlying t with
    | some (.struct fs) => flatF P (flatT P f) (P.cellsOf t) fs.toList 0
    | some (.array _ _) => none
    | some (.tuple _) => none
    | _ => if P.cellsOf t = 1 then some [t] else none
def FlatAs (enc : TypeId × Value → H) (P : Program) (w : World) (base : Nat) (spare : Nat → Bool) (held : Bool) : List TypeId → List Value → Prop
  | [], cs => cs = []
  | t :: ts, cs => ∃ v cs', cs = v :: cs' ∧ (∃ n y, DataW.trod enc P w base spare held n t [v] = some y) ∧ FlatAs enc P w base spare held ts cs'
theorem FlatAs.append : ∀ {ts us : List TypeId} {cs ds : List Value}, FlatAs enc P w base spare held ts cs → FlatAs enc P w base spare held us ds → FlatAs enc P w base spare held (ts ++ us) (cs ++ ds)
  | [], _, _, _, h, k => by cases h; exact k
  | _ :: _, _, _, _, ⟨v, cs', e, hv, h⟩, k => by subst e; exact ⟨v, _, rfl, hv, h.append k⟩
theorem flat_fields {rec : TypeId → Option (List TypeId)} {n : Nat} (cs : List Value)
    (ih : ∀ t ts, rec t = some ts → ∀ cs y, DataW.trod enc P w base spare held n t cs = some y → cs.length = P.cellsOf t → FlatAs enc P w base spare held ts cs) :
    ∀ (fs : List Field) (o : Nat) (ts : List TypeId), flatF P rec cs.length fs o = some ts → o ≤ cs.length →
      (∀ fd ∈ fs, ∃ y, DataW.trod enc P w base spare held n fd.type ((cs.drop fd.offset).take (P.cellsOf fd.type)) = some y ∧ fd.offset + P.cellsOf fd.type ≤ cs.length) → FlatAs enc P w base spare held ts (cs.drop o)
  | [], o, ts, h, ho, _ => by
    unfold flatF at h
    split at h
    · cases h; rename_i e; rw [e, List.drop_length]; rfl
    · cases h
  | fd :: fs, o, ts, h, ho, hf => by
    unfold flatF at h
    split at h
    case isFalse => cases h
    rename_i e
    cases hk : rec fd.type with
    | none => rw [hk] at h; cases h
    | some ks =>
      rw [hk] at h
      cases hr : flatF P rec cs.length fs (o + P.cellsOf fd.type) with
      | none => rw [hr] at h; cases h
      | some r =>
        rw [hr] at h
        cases h
        obtain ⟨y, hy, hle⟩ := hf fd List.mem_cons_self
        rw [e] at hy hle
        have h1 := ih fd.type ks hk _ y hy (by rw [List.length_take, List.length_drop]; omega)
        have h2 := flat_fields cs ih fs _ r hr hle (fun fd' hm => hf fd' (List.mem_cons_of_mem _ hm))
        have : cs.drop o = (cs.drop o).take (P.cellsOf fd.type) ++ cs.drop (o + P.cellsOf fd.type) := by
          rw [← List.drop_drop, List.take_append_drop]
        rw [this]
        exact h1.append h2
theorem flatF_room {rec : TypeId → Option (List TypeId)} {stop : Nat} : ∀ (fs : List Field) (o : Nat) (ts : List TypeId), flatF P rec stop fs o = some ts → o ≤ stop ∧ ∀ fd ∈ fs, fd.offset + P.cellsOf fd.type ≤ stop
  | [], o, ts, h => by
    unfold flatF at h
    split at h
    · rename_i e; exact ⟨by omega, by simp⟩
    · cases h
  | fd :: fs, o, ts, h => by
    unfold flatF at h
    split at h
    case isFalse => cases h
    rename_i e
    cases hk : rec fd.type with
    | none => rw [hk] at h; cases h
    | some ks =>
      rw [hk] at h
      cases hr : flatF P rec stop fs (o + P.cellsOf fd.type) with
      | none => rw [hr] at h; cases h
      | some r =>
        obtain ⟨h1, h2⟩ := flatF_room fs _ r hr
        refine ⟨by omega, fun f hf => ?_⟩
        rcases List.mem_cons.1 hf with rfl | hf
        · omega
        · exact h2 f hf
theorem flat_of : ∀ (f : Nat) (t : TypeId) (ts : List TypeId), flatT P f t = some ts → ∀ (n : Nat) (cs : List Value) y, DataW.trod enc P w base spare held n t cs = some y → cs.length = P.cellsOf t → FlatAs enc P w base spare held ts cs
  | 0, t, ts, h => by cases h
  | f + 1, t, ts, h => by
    intro n cs y hy hl
    unfold flatT at h
    split at h
    · rename_i fs hu
      obtain ⟨h1, m, h2⟩ := struct_fields hu hy
      obtain ⟨r1, r2⟩ := flatF_room fs.toList 0 ts h
      rw [← hl] at h r2
      have := flat_fields (n := m) cs (fun t' ts' ht cs' y' hy' hl' => flat_of f t' ts' ht m cs' y' hy' hl') fs.toList 0 ts h (Nat.zero_le _) (fun fd hm => by obtain ⟨y, hy⟩ := h2 fd hm; exact ⟨y, hy, r2 fd hm⟩)
      simpa using this
    · cases h
    · cases h
    · split at h
      · rename_i hc
        cases h
        rw [hc] at hl
        match cs, hl with
        | [v], _ => exact ⟨v, [], rfl, ⟨n, y, hy⟩, rfl⟩
      · cases h
end Go.Tk
end
