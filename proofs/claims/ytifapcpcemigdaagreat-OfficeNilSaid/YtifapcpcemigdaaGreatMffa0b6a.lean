/- Bw, Of10, OpB, OfO, Lw16b, HoP1, Lw16c, Lw16d, Lw16e, HoP2, HoP3, HoP4, Lw16f, Lw16n, Ex8, Of11, FsOfficeNil. -/
import Derived.Test.YtifapcpcemigdaaGreatMf331612
import Derived.Test.YtifapcpcemigdaaGreatMa8ea5ac
import Derived.Test.YtifapcpcemigdaaGreatM81af217
import Derived.Test.YtifapcpcemigdaaGreatM305ace2
import Derived.Test.YtifapcpcemigdaaGreatMb930152
import Derived.Test.YtifapcpcemigdaaGreatMf0575b6
import Derived.Test.YtifapcpcemigdaaGreatRows
import Derived.Test.YtifapcpcemigdaaGreatChecked
import Derived.ProofKit
import Derived.OpenShut
import Derived.ShutString
import Derived.ChangeOld
import Derived.Below
set_option maxRecDepth 100000
set_option linter.unusedVariables false
set_option linter.unusedSimpArgs false
set_option linter.unusedSectionVars false
section
namespace Go.Proofs.YtifapcpcemigdaaGreat
open Go.RowKit Go.Lib Go.Tk Go.Shelf Go.Vc Go.Sx
def sale15 : SaleV := ⟨⟨#[68, 79, 69, 47, 74]⟩, [⟨1, 0, 1⟩, ⟨0, 0, 1⟩], 101, [], 20⟩
theorem sale15_ok : SaleOk sale15 where
  name := by unfold maxLen; show (5 : Nat) ≤ _; decide
  legs := by intro l hl; simp [sale15] at hl; rcases hl with rfl | rfl <;> (unfold LegOk; decide)
  taxes := by intro t ht; cases ht
  fare := by decide
  pen := by decide
  nl := by decide
  nt := by decide
def t15 : Tid := ⟨1, 1⟩
def C15 : BookV := ⟨1, 3, [⟨t15, sale15, [51, 50], ⟨0, 0⟩, ⟨0, 0⟩, 0, 101, 0, 0, 0⟩], [(⟨t15, 0⟩, ownNew ⟨1, 0, 1⟩ 51), (⟨t15, 1⟩, ownNew ⟨0, 0, 1⟩ 50)], []⟩
theorem sort_15 : Go.Tk.sortL (restsL 101 2 [1, 1]) = [(1, 0), (1, 1)] := by
  refine (sortL_unique ?_ ?_).symm
  · decide
  · decide
theorem share_15 : shareV 101 [1, 1] = [51, 50] := by
  have e : shareE 101 [1, 1] = 0 := by decide
  unfold shareV
  rw [if_pos e]
  unfold shareL chosen
  have hs : ([1, 1] : List Int).sum = 2 := by decide
  rw [hs, sort_15]
  decide
theorem share15 : shareV sale15.fare (wsOf sale15) = [51, 50] := share_15
theorem iss15 : (bookNew 1 3).issued sale15 = C15 := by unfold BookV.issued docMade; rw [share15]; rfl
end Go.Proofs.YtifapcpcemigdaaGreat
end
section
namespace Go.Proofs.YtifapcpcemigdaaGreat
open Go.RowKit Go.Lib Go.Tk Go.Shelf Go.Vc Go.Sx
def recX (r : RecO) (x y : SV) : List SV := [.val (.int .u8 r.kind), .val (.int .u8 r.cmd.kind), .val (.int .u8 r.cmd.t.c), .val (.int .u64 r.cmd.t.r), .val (.int .u8 r.cmd.i)] ++ salS r.cmd.s x y ++ [.val (.int .i64 r.cmd.amt), .val (.int .u8 r.src), .val (.int .u64 r.num)] ++ msS r.m
theorem rec_args (r : RecO) : ∀ ε ε' x y x' y', SV.den ε x = SV.den ε' x' → SV.den ε y = SV.den ε' y' → (∀ s k, noTen s k = true → ε s k = ε' s k) → SV.dens ε [.ptr 0 0 0, .agg (recX r x y)] = SV.dens ε' [.ptr 0 0 0, .agg (recX r x' y')] := fun ε ε' x y x' y' h1 h2 h3 => by
  simp only [SV.dens, SV.den, recX, salS, msS, List.cons_append, List.nil_append, h1, h2, h3 0 0 rfl]
theorem try_D {O : OffV} {n : Nat} (h : OI O n) (hn : n < 4294967296) {r : RecO} (g : RecG r) :
    CallOK Tryz.prog OffTryF [.ptr 0 0 0, .agg (recX r (.raw 0 10) (.raw 0 11))] [((0, 10), legD r.cmd.s.legs.length r.cmd.s.legs), ((0, 11), taxD r.cmd.s.taxes.length r.cmd.s.taxes)] (offH O) (tryV (tryQ O r)) (tryP O (tryQ O r)) := by
  refine raw2 (args := fun x y => [.ptr 0 0 0, .agg (recX r x y)]) (rec_args r) (fun F A hl ht h1 h2 => try_w (F := F) h hn (r := r) (S := A) ⟨g.ok, g.ms, ⟨g.kind, g.t, g.i, g.sal, hl, ht, h1, h2⟩⟩) rfl ?_ ?_
  · unfold tryV; cases decide ((tryQ O r).e = 0) <;> rfl
  · unfold tryP; cases decide ((tryQ O r).e = 0) <;> rfl
def msg20 : MsV := ⟨0, ⟨⟨0, 0⟩, 0⟩, ⟨⟨0, 0, 0⟩, 0, 0, 0⟩, 0, 0⟩
def saleZ : SaleV := ⟨⟨#[]⟩, [], 0, [], 0⟩
def cmdZ : CmdO := ⟨0, ⟨0, 0⟩, 0, saleZ, 0⟩
theorem saleZ_ok : SaleOk saleZ where
  name := by unfold maxLen; show (0 : Nat) ≤ _; decide
  legs := by intro l hl; cases hl
  taxes := by intro t ht; cases ht
  fare := by decide
  pen := by decide
  nl := by decide
  nt := by decide
def wantZ : MsV := ⟨1, ⟨t15, 1⟩, ⟨⟨0, 0, 0⟩, 0, 0, 0⟩, 0, 0⟩
def r20a : RecO := ⟨1, ⟨1, ⟨0, 0⟩, 0, sale15, 0⟩, 0, 0, msg20⟩
def r20 (num : Int) : RecO := ⟨2, cmdZ, 0, num, wantZ⟩
theorem r20a_ok : RecG r20a := ⟨⟨by decide, by decide, by decide, by decide, ⟨⟨by decide, by decide⟩, by decide, by decide⟩⟩, ⟨by decide, by decide⟩, by decide, ⟨by decide, by decide⟩, by decide, sale15_ok⟩
theorem r20_ok {n : Int} (hn : 0 ≤ n ∧ n ≤ 18446744073709551615) : RecG (r20 n) := ⟨⟨(by show (0 : Int) ≤ 2 ∧ (2 : Int) ≤ 255; decide), (by show (0 : Int) ≤ 0 ∧ (0 : Int) ≤ 255; decide), hn, (by show (0 : Int) ≤ 1 ∧ (1 : Int) ≤ 255; decide), ⟨⟨(by show (0 : Int) ≤ 1 ∧ (1 : Int) ≤ 255; decide), (by show (0 : Int) ≤ 1 ∧ (1 : Int) ≤ _; decide)⟩, by show (0 : Int) ≤ 1; decide, by show (1 : Int) ≤ 255; decide⟩⟩, ⟨(by show (0 : Int) ≤ 0; decide), (by show (0 : Int) ≤ 255; decide)⟩, (by show (0 : Int) ≤ 0 ∧ (0 : Int) ≤ 255; decide), ⟨(by show (0 : Int) ≤ 0 ∧ (0 : Int) ≤ 255; decide), (by show (0 : Int) ≤ 0 ∧ (0 : Int) ≤ _; decide)⟩, (by show (0 : Int) ≤ 0 ∧ (0 : Int) ≤ 255; decide), saleZ_ok⟩
def O20 : OffV := offNew 1 3
def O20b : OffV := ⟨C15, newP 1 3⟩
theorem O20_oi : OI O20 0 := new_oi (by decide) (by decide)
theorem iss20 : exIssue (bookNew 1 3) sale15 = ⟨0, t15, 101, [1, 1], C15⟩ := by
  unfold exIssue
  have e : decide ((bookNew 1 3).issE sale15 = 0) = true := by kernel_rfl
  rw [e]
  show toldX ((bookNew 1 3).issued sale15) (bookNew 1 3).nextT (priceI sale15) = _
  rw [iss15]
  unfold toldX
  rw [show priceI sale15 = 101 by kernel_rfl]
  kernel_rfl
theorem q20a : tryQ O20 r20a = ⟨0, 0, t15, 101, [1, 1], O20b⟩ := by
  show cmdTQ O20.p (exIssue (bookNew 1 3) sale15) = _
  rw [iss20]
  rfl
theorem O20b_oi : OI O20b 1 := by
  have h := try_oi O20_oi (by decide) r20a_ok
  rw [q20a] at h
  exact h
def Sale20F : Nat := 21
def Wakes20F : Nat := 8
theorem sale20_w : CallOK Tryz.prog Sale20F [] [] [] (.agg (salS sale15 (.raw 1 0) nilS)) [((1, 0), legD 2 sale15.legs)] := callOK_run 400 [] (by kernel_rfl) (by kernel_rfl)
theorem wakes20_w : CallOK Tryz.prog Wakes20F [] [] [] (.val (.bool true)) [] := by
  have n1 := offNew_ok (self := 1) (n := 3) (by decide) (by decide)
  have n2 := sale20_w
  have n3 := try_D O20_oi (by decide) r20a_ok
  rw [q20a] at n3
  have n4 := try_D O20b_oi (by decide) (r20_ok (n := 2) (by decide))
  rw [(try_n (O := O20b) (q := tryQ O20b (r20 2)) (by decide)).1, (try_n (by decide)).2] at n4
  rw [show (tryQ O20b (r20 2)).e = 6 by kernel_rfl] at n4
  have n5 := try_D O20b_oi (by decide) (r20_ok (n := 1) (by decide))
  rw [(try_e (O := O20b) (q := tryQ O20b (r20 1)) (by decide)).1, (try_e (by decide)).2] at n5
  have iq := try_oi O20b_oi (by decide) (r20_ok (n := 1) (by decide))
  have lq : lenP (tryQ O20b (r20 1)).o.p 0 = 1 := by kernel_rfl
  generalize tryQ O20b (r20 1) = q at n5 iq lq
  have n6 := offPost_w iq.off
  have n7 := len_c q.o.p 0 (by decide) (by decide)
  rw [lq] at n7
  have n8 := offPost_w O20b_oi.off
  have n9 := len_c O20b.p 0 (by decide) (by decide)
  rw [show lenP O20b.p 0 = 0 by kernel_rfl] at n9
  have n10 := offBook_w O20_oi.off
  have n11 := tickets_c O20_oi.bk.bi.ex.bk
  exact callOK_run 900 [hC 1 0 n1, hC 4 1 n2, hC 4 4 n3, hC 8 3 n4, hC 9 3 n5, hC 10 8 n6, hC 10 9 n7, hC 10 14 n8, hC 10 15 n9, hC 10 20 n10, hC 10 21 n11] (by kernel_rfl) (by kernel_rfl)
end Go.Proofs.YtifapcpcemigdaaGreat
end
section
namespace Go.Proofs.YtifapcpcemigdaaGreat
open Go.RowKit Go.Lib Go.Tk Go.Shelf Go.Vc Go.Sx Go.WideShapes
def saleC (s : SaleV) (A : SaleA) : List Value := [.string s.name, .slice A.la s.legs.length A.lc, .int .i64 s.fare, .slice A.ta s.taxes.length A.tc, .int .i64 s.pen]
section
variable {H : Type} {enc : TypeId × Value → H} {w : World} {base : Nat} {spare : Nat → Bool} {held : Bool}
theorem FlatAs.split : ∀ {ts us : List TypeId} {cs : List Value}, FlatAs enc Tryz.prog w base spare held (ts ++ us) cs → ∃ a b, cs = a ++ b ∧ FlatAs enc Tryz.prog w base spare held ts a ∧ FlatAs enc Tryz.prog w base spare held us b
  | [], us, cs, h => ⟨[], cs, rfl, rfl, h⟩
  | t :: ts, us, cs, ⟨v, cs', e, hv, h⟩ => by
    obtain ⟨a, b, h1, ha, hb⟩ := FlatAs.split h
    subst h1
    subst e
    exact ⟨v :: a, b, rfl, ⟨v, a, rfl, hv, ha⟩, hb⟩
theorem sale_of {cs : List Value} (h : FlatAs enc Tryz.prog w base spare held [9, 29, 2, 30, 2] cs) : ∃ s A, saleC s A = cs ∧ SaleAt w s A ∧ SaleW s := by
  obtain ⟨v0, _, rfl, ⟨n0, y0, h0⟩, v1, _, rfl, ⟨n1, y1, h1⟩, v2, _, rfl, ⟨n2, y2, h2⟩, v3, _, rfl, ⟨n3, y3, h3⟩, v4, _, rfl, ⟨n4, y4, h4⟩, rfl⟩ := h
  obtain ⟨a0, e0, w0⟩ := string_cell Tryz.underlying9 h0
  cases e0
  obtain ⟨b1, a1, c1, e1, r1, i1, m1, o1⟩ := legs_cell h1
  cases e1
  obtain ⟨a2, e2, w2⟩ := int_cell Tryz.underlying2 h2
  cases e2
  obtain ⟨b3, a3, c3, e3, r3, i3, m3, o3⟩ := taxes_cell h3
  cases e3
  obtain ⟨a4, e4, w4⟩ := int_cell Tryz.underlying2 h4
  cases e4
  exact ⟨⟨a0, a1, a2, a3, a4⟩, ⟨b1, c1, b3, c3⟩, rfl, ⟨r1, r3, i1, i3⟩, ⟨w0, o1, o3, wfi64 w2, wfi64 w4, m1, m3⟩⟩
end
end Go.Proofs.YtifapcpcemigdaaGreat
end
section
namespace Go.Proofs.YtifapcpcemigdaaGreat
open Go.RowKit Go.Lib Go.Tk Go.Shelf Go.Vc Go.Sx Go.WideShapes
structure OrX where
  c : RecO
  A : SaleA
def orHeadC (c : RecO) : List Value := [.int .u8 c.kind, .int .u8 c.cmd.kind, .int .u8 c.cmd.t.c, .int .u64 c.cmd.t.r, .int .u8 c.cmd.i]
def orMidC (c : RecO) : List Value := [.int .i64 c.cmd.amt, .int .u8 c.src, .int .u64 c.num]
def orC (x : OrX) : List Value := orHeadC x.c ++ (saleC x.c.cmd.s x.A ++ (orMidC x.c ++ msL x.c.m))
structure OrIn (w : World) (x : OrX) : Prop where
  at_ : SaleAt w x.c.cmd.s x.A
  ok : SaleW x.c.cmd.s
  kind : 0 ≤ x.c.kind ∧ x.c.kind ≤ 255
  ck : 0 ≤ x.c.cmd.kind ∧ x.c.cmd.kind ≤ 255
  ct : TidOk x.c.cmd.t
  ci : 0 ≤ x.c.cmd.i ∧ x.c.cmd.i ≤ 255
  src : 0 ≤ x.c.src ∧ x.c.src ≤ 255
  num : 0 ≤ x.c.num ∧ x.c.num ≤ 18446744073709551615
  mkd : 0 ≤ x.c.m.kind ∧ x.c.m.kind ≤ 255
  ms : InB x.c.m.k.s
  key : KidOk x.c.m.key
section
variable {H : Type} {enc : TypeId × Value → H} {w : World} {base : Nat} {spare : Nat → Bool} {held : Bool}
theorem orHead_of {cs : List Value} (h : FlatAs enc Tryz.prog w base spare held [5, 5, 5, 33, 5] cs) : ∃ b c : Int, ∃ t : Tid, ∃ i : Int, [Value.int .u8 b, .int .u8 c, .int .u8 t.c, .int .u64 t.r, .int .u8 i] = cs ∧ (0 ≤ b ∧ b ≤ 255) ∧ (0 ≤ c ∧ c ≤ 255) ∧ TidOk t ∧ 0 ≤ i ∧ i ≤ 255 := by
  obtain ⟨v0, _, rfl, ⟨n0, y0, h0⟩, v1, _, rfl, ⟨n1, y1, h1⟩, v2, _, rfl, ⟨n2, y2, h2⟩, v3, _, rfl, ⟨n3, y3, h3⟩, v4, _, rfl, ⟨n4, y4, h4⟩, rfl⟩ := h
  obtain ⟨a0, e0, w0⟩ := int_cell Tryz.underlying5 h0
  cases e0
  obtain ⟨a1, e1, w1⟩ := int_cell Tryz.underlying5 h1
  cases e1
  obtain ⟨a2, e2, w2⟩ := int_cell Tryz.underlying5 h2
  cases e2
  obtain ⟨a3, e3, w3⟩ := int_cell Tryz.underlying33 h3
  cases e3
  obtain ⟨a4, e4, w4⟩ := int_cell Tryz.underlying5 h4
  cases e4
  exact ⟨a0, a1, ⟨a2, a3⟩, a4, rfl, wfu8 w0, wfu8 w1, ⟨wfu8 w2, wfu64 w3⟩, wfu8 w4⟩
theorem orMid_of {cs : List Value} (h : FlatAs enc Tryz.prog w base spare held [2, 5, 33] cs) : ∃ a b c : Int, [Value.int .i64 a, .int .u8 b, .int .u64 c] = cs ∧ (0 ≤ b ∧ b ≤ 255) ∧ 0 ≤ c ∧ c ≤ 18446744073709551615 := by
  obtain ⟨v0, _, rfl, ⟨n0, y0, h0⟩, v1, _, rfl, ⟨n1, y1, h1⟩, v2, _, rfl, ⟨n2, y2, h2⟩, rfl⟩ := h
  obtain ⟨a0, e0, w0⟩ := int_cell Tryz.underlying2 h0
  cases e0
  obtain ⟨a1, e1, w1⟩ := int_cell Tryz.underlying5 h1
  cases e1
  obtain ⟨a2, e2, w2⟩ := int_cell Tryz.underlying33 h2
  cases e2
  exact ⟨a0, a1, a2, rfl, wfu8 w1, wfu64 w2⟩
theorem orMsg_of {cs : List Value} (h : FlatAs enc Tryz.prog w base spare held [5, 5, 33, 5, 5, 40, 41, 2, 44, 41, 2, 26] cs) : ∃ m : MsV, msL m = cs ∧ (0 ≤ m.kind ∧ m.kind ≤ 255) ∧ InB m.k.s ∧ KidOk m.key := by
  obtain ⟨v0, _, rfl, ⟨n0, y0, h0⟩, v1, _, rfl, ⟨n1, y1, h1⟩, v2, _, rfl, ⟨n2, y2, h2⟩, v3, _, rfl, ⟨n3, y3, h3⟩, v4, _, rfl, ⟨n4, y4, h4⟩, v5, _, rfl, ⟨n5, y5, h5⟩, v6, _, rfl, ⟨n6, y6, h6⟩, v7, _, rfl, ⟨n7, y7, h7⟩, v8, _, rfl, ⟨n8, y8, h8⟩, v9, _, rfl, ⟨n9, y9, h9⟩, v10, _, rfl, ⟨n10, y10, h10⟩, v11, _, rfl, ⟨n11, y11, h11⟩, rfl⟩ := h
  obtain ⟨a0, e0, w0⟩ := int_cell Tryz.underlying5 h0
  cases e0
  obtain ⟨a1, e1, w1⟩ := int_cell Tryz.underlying5 h1
  cases e1
  obtain ⟨a2, e2, w2⟩ := int_cell Tryz.underlying33 h2
  cases e2
  obtain ⟨a3, e3, w3⟩ := int_cell Tryz.underlying5 h3
  cases e3
  obtain ⟨a4, e4, w4⟩ := int_cell Tryz.underlying5 h4
  cases e4
  obtain ⟨a5, e5, w5⟩ := int_cell Tryz.underlying40 h5
  cases e5
  obtain ⟨a6, e6, w6⟩ := int_cell Tryz.underlying41 h6
  cases e6
  obtain ⟨a7, e7, w7⟩ := int_cell Tryz.underlying2 h7
  cases e7
  obtain ⟨a8, e8, w8⟩ := int_cell Tryz.underlying44 h8
  cases e8
  obtain ⟨a9, e9, w9⟩ := int_cell Tryz.underlying41 h9
  cases e9
  obtain ⟨a10, e10, w10⟩ := int_cell Tryz.underlying2 h10
  cases e10
  obtain ⟨a11, e11, w11⟩ := int_cell Tryz.underlying26 h11
  cases e11
  exact ⟨⟨a0, ⟨⟨a1, a2⟩, a3⟩, ⟨⟨a4, a5, a6⟩, a7, a8, a9⟩, a10, a11⟩, rfl, wfu8 w0, wfu8 w8, ⟨wfu8 w1, wfu64 w2⟩, wfu8 w3⟩
def orTs : List TypeId := [5, 5, 5, 33, 5] ++ ([9, 29, 2, 30, 2] ++ ([2, 5, 33] ++ [5, 5, 33, 5, 5, 40, 41, 2, 44, 41, 2, 26]))
theorem or_of {cs : List Value} (h : FlatAs enc Tryz.prog w base spare held orTs cs) : ∃ x : OrX, orC x = cs ∧ OrIn w x := by
  obtain ⟨x1, r1, e1, h1, g1⟩ := FlatAs.split h
  obtain ⟨x2, r2, e2, h2, g2⟩ := FlatAs.split g1
  obtain ⟨x3, x4, e3, h3, h4⟩ := FlatAs.split g2
  obtain ⟨b, c, t, i, f1, k2, k3, k4, k5⟩ := orHead_of h1
  obtain ⟨s, A, f2, s1, s2⟩ := sale_of h2
  obtain ⟨am, src, num, f3, k6, k6b⟩ := orMid_of h3
  obtain ⟨m, f4, k6c, k6d, k7⟩ := orMsg_of h4
  refine ⟨⟨⟨b, ⟨c, t, i, s, am⟩, src, num, m⟩, A⟩, ?_, ⟨s1, s2, k2, k3, k4, k5, k6, k6b, k6c, k6d, k7⟩⟩
  rw [e1, e2, e3, ← f1, ← f2, ← f3, ← f4]
  rfl
theorem or_flat : flatT Tryz.prog 6 50 = some orTs := by kernel_rfl
theorem open_or {r : Reach} {b0 : Nat} {v : Value} {d : DataW H} {p : List MemPlace} (hv : Value.okWide Tryz.prog w r b0 50 v) (h : DataW.Trod enc Tryz.prog w base spare held 50 v d p) :
    ∃ x : OrX, v = .agg (orC x).toArray ∧ OrIn w x := by
  obtain ⟨cs, rfl, hf⟩ := flat_open 6 Tryz.underlying50 or_flat hv h
  obtain ⟨x, rfl, ok⟩ := or_of hf
  exact ⟨x, rfl, ok⟩
end
end Go.Proofs.YtifapcpcemigdaaGreat
end
section
namespace Go.Proofs.YtifapcpcemigdaaGreat
open Go.RowKit Go.Lib Go.Tk Go.Shelf Go.Vc Go.Sx
end Go.Proofs.YtifapcpcemigdaaGreat
end
section
namespace Go.Proofs.YtifapcpcemigdaaGreat
open Go.RowKit Go.Lib Go.Tk Go.Shelf Go.Vc Go.Sx
structure HSt where
  a : BookV
  b : BookV
  down : List MsV
  up : List MsV
def tA : Tid := ⟨0, 1⟩
def keyA (i : Int) : Kid := ⟨tA, i⟩
def nM (kind : Int) (k : Kid) : List MsV → Nat
  | [] => 0
  | m :: l => (if m.kind = kind ∧ m.key = k then 1 else 0) + nM kind k l
theorem nM_append (kind : Int) (k : Kid) (l r : List MsV) : nM kind k (l ++ r) = nM kind k l + nM kind k r := by
  induction l with
  | nil => simp [nM]
  | cons m l ih => simp only [List.cons_append, nM, ih]; omega
def keysA : List Kid := [keyA 0, keyA 1, keyA 2, keyA 3]
end Go.Proofs.YtifapcpcemigdaaGreat
end
section
namespace Go.Proofs.YtifapcpcemigdaaGreat
open Go.RowKit Go.Lib Go.Tk Go.Shelf Go.Vc Go.Sx
end Go.Proofs.YtifapcpcemigdaaGreat
end
section
namespace Go.Proofs.YtifapcpcemigdaaGreat
open Go.RowKit Go.Lib Go.Tk Go.Shelf Go.Vc Go.Sx
end Go.Proofs.YtifapcpcemigdaaGreat
end
section
namespace Go.Proofs.YtifapcpcemigdaaGreat
open Go.RowKit Go.Lib Go.Tk Go.Shelf Go.Vc Go.Sx
end Go.Proofs.YtifapcpcemigdaaGreat
end
section
namespace Go.Proofs.YtifapcpcemigdaaGreat
open Go.RowKit Go.Lib Go.Tk Go.Shelf Go.Vc Go.Sx
structure OneP (o : OwnV) (x : HeldV) (k : Kid) (D U : List MsV) : Prop where
  stay : o.away = false → nM 2 k D = 0 ∧ nM 5 k U = 0 ∧ x.here = false
  gone : o.away = true → o.dst = 1 ∧ nM 2 k D + nM 5 k U + (if x.here = true then 1 else 0) = 1
  dn : ∀ m ∈ D, m.kind = 2 → m.key = k → m.k.n = o.k.n
  upn : ∀ m ∈ U, m.kind = 5 → m.key = k → m.k.n = o.k.n
  hn : x.here = true → x.k.n = o.k.n
  le : x.k.n ≤ o.k.n
  lt : 0 < nM 2 k D → x.k.n < o.k.n
  lo : 0 ≤ o.k.n
  hi : o.k.n ≤ 4294967295
theorem nM_add1 (kind : Int) (k : Kid) (l : List MsV) {m : MsV} (hm : m.kind = kind ∧ m.key = k) : nM kind k (l ++ [m]) = nM kind k l + 1 := by
  rw [nM_append]; show _ + ((if _ then 1 else 0) + 0) = _; rw [if_pos hm]
theorem nM_drop1 (kind : Int) (k : Kid) (l : List MsV) {m : MsV} (hm : m.kind = kind ∧ m.key = k) : nM kind k (m :: l) = nM kind k l + 1 := by
  show (if _ then 1 else 0) + _ = _; rw [if_pos hm]; omega
section
variable {o : OwnV} {x : HeldV} {k : Kid} {D U : List MsV} {m : MsV}
theorem OneP.own {o' : OwnV} (h : OneP o x k D U) (h1 : o'.away = o.away) (h2 : o'.dst = o.dst) (h3 : o'.k = o.k) : OneP o' x k D U :=
  ⟨by rw [h1]; exact h.stay, by rw [h1, h2]; exact h.gone, by rw [h3]; exact h.dn, by rw [h3]; exact h.upn, by rw [h3]; exact h.hn, by rw [h3]; exact h.le, by rw [h3]; exact h.lt, by rw [h3]; exact h.lo, by rw [h3]; exact h.hi⟩
theorem OneP.held {x' : HeldV} (h : OneP o x k D U) (h1 : x'.here = x.here) (h2 : x'.k = x.k) : OneP o x' k D U :=
  ⟨by rw [h1]; exact h.stay, by rw [h1]; exact h.gone, h.dn, h.upn, by rw [h1, h2]; exact h.hn, by rw [h2]; exact h.le, by rw [h2]; exact h.lt, h.lo, h.hi⟩
theorem OneP.away_of (h : OneP o x k D U) (h1 : x.here = true ∨ 0 < nM 2 k D ∨ 0 < nM 5 k U) : o.away = true := by
  rcases Bool.eq_false_or_eq_true o.away with e | e
  · exact e
  · have := h.stay e
    rcases h1 with h1 | h1 | h1
    · rw [this.2.2] at h1; cases h1
    · omega
    · omega
theorem OneP.give (h : OneP o x k D U) (hx : x.here = true) : OneP o (goneH x) k D (U ++ [⟨5, k, x.k, 0, 0⟩]) := by
  have ha := h.away_of (.inl hx)
  have hg := h.gone ha
  rw [if_pos hx] at hg
  have hz := nM_add1 5 k U (m := ⟨5, k, x.k, 0, 0⟩) ⟨rfl, rfl⟩
  refine ⟨fun e => (by rw [ha] at e; cases e), fun _ => ⟨hg.1, ?_⟩, h.dn, ?_, fun e => (by cases e), h.le, h.lt, h.lo, h.hi⟩
  · rw [hz, if_neg (by intro e; cases e)]; omega
  · intro m' hm' e1 e2
    rcases List.mem_append.1 hm' with q | q
    · exact h.upn m' q e1 e2
    · rw [List.mem_singleton] at q; subst q; exact h.hn hx
theorem OneP.back (h : OneP o x k D (m :: U)) (h1 : m.kind = 5) (h2 : m.key = k) : o.away = true ∧ o.dst = 1 ∧ o.k.n = m.k.n ∧ OneP (backO o) x k D U := by
  have hz := nM_drop1 5 k U (m := m) ⟨h1, h2⟩
  have hn := h.upn m List.mem_cons_self h1 h2
  have hp : 0 < nM 5 k (m :: U) := by omega
  have ha := h.away_of (.inr (.inr hp))
  have hg := h.gone ha
  rw [hz] at hg
  have hf : x.here = false := by
    rcases Bool.eq_false_or_eq_true x.here with e | e
    · rw [if_pos e] at hg; omega
    · exact e
  exact ⟨ha, hg.1, hn.symm, ⟨fun _ => ⟨by omega, by omega, hf⟩, (fun e => by cases e), h.dn, fun m' hm' e1 e2 => h.upn m' (List.mem_cons_of_mem _ hm') e1 e2, h.hn, h.le, h.lt, h.lo, h.hi⟩⟩
end
structure InvP (σ : HSt) : Prop where
  one : ∀ k ∈ keysA, ∃ o, lkt σ.a.owns k = some o ∧ OneP o ((lkt σ.b.helds k).getD held0) k σ.down σ.up
  sa : σ.a.self = 0
  na : σ.a.n = 2
  sb : σ.b.self = 1
  nb : σ.b.n = 2
  ow : ∀ k, (lkt σ.a.owns k).isSome = true → k ∈ keysA
  ob : σ.b.owns = []
  ha : σ.a.helds = []
  he : ∀ k, (lkt σ.b.helds k).isSome = true → k ∈ keysA
  nd : (σ.b.helds.map (·.1)).Nodup
  dk : ∀ m ∈ σ.down, m.key ∈ keysA ∧ (m.kind = 2 ∨ m.kind = 3 ∨ m.kind = 4)
  uk : ∀ m ∈ σ.up, m.key ∈ keysA ∧ (m.kind = 1 ∨ m.kind = 3 ∨ m.kind = 5)
theorem len_sub {α : Type} [DecidableEq α] : ∀ (l r : List α), l.Nodup → (∀ a ∈ l, a ∈ r) → l.length ≤ r.length
  | [], r, _, _ => Nat.zero_le _
  | a :: l, r, hn, hs => by
    rw [List.nodup_cons] at hn
    have hm := hs a List.mem_cons_self
    have := len_sub l (r.erase a) hn.2 (fun b hb => by
      have hne : b ≠ a := fun e => hn.1 (e ▸ hb)
      exact (List.mem_erase_of_ne hne).2 (hs b (List.mem_cons_of_mem _ hb)))
    rw [List.length_erase_of_mem hm] at this
    have hp : 0 < r.length := List.length_pos_of_mem hm
    simp only [List.length_cons]; omega
theorem keys_at {k : Kid} (h : k ∈ keysA) : ∃ i : Int, k = keyA i ∧ 0 ≤ i ∧ i ≤ 3 := by
  simp only [keysA, List.mem_cons, List.not_mem_nil, or_false] at h
  rcases h with rfl | rfl | rfl | rfl
  · exact ⟨0, rfl, by decide, by decide⟩
  · exact ⟨1, rfl, by decide, by decide⟩
  · exact ⟨2, rfl, by decide, by decide⟩
  · exact ⟨3, rfl, by decide, by decide⟩
theorem InvP.setHE {σ : HSt} (h : InvP σ) {k : Kid} (hk : k ∈ keysA) : σ.b.setHE k = 0 := by
  obtain ⟨i, rfl, h0, h1⟩ := keys_at hk
  have hb : σ.b.badK (keyA i) = false := by
    unfold BookV.badK
    rw [h.sb, h.nb]
    show (decide ((0 : Int) = 1) || (decide ((2 : Int) ≤ 0) || (decide ((1 : Int) < 1) || (decide ((9999999999 : Int) < 1) || decide (4 ≤ i))))) = false
    rw [decide_eq_false (show ¬ 4 ≤ i by omega)]; rfl
  have hl := len_sub _ keysA h.nd (fun a ha => h.he a (by
    cases e : lkt σ.b.helds a with
    | none => exact absurd ha (lkt_none.1 e)
    | some _ => rfl))
  rw [List.length_map] at hl
  have hl : σ.b.helds.length ≤ 4 := hl
  unfold BookV.setHE
  rw [hb, decide_eq_false (show ¬ 64 ≤ σ.b.helds.length by omega), Bool.and_false]; rfl
theorem InvP.setH {σ : HSt} (h : InvP σ) {k : Kid} (hk : k ∈ keysA) (x : HeldV) : σ.b.setH k x = { σ.b with helds := putt σ.b.helds k x } := by
  unfold BookV.setH; rw [h.setHE hk]; rfl
section
variable {A B : BookV} {D U D' U' : List MsV} {k : Kid}
end
end Go.Proofs.YtifapcpcemigdaaGreat
end
section
namespace Go.Proofs.YtifapcpcemigdaaGreat
open Go.RowKit Go.Lib Go.Tk Go.Shelf Go.Vc Go.Sx
section
variable {A B : BookV} {D U : List MsV}
end
end Go.Proofs.YtifapcpcemigdaaGreat
end
section
namespace Go.Proofs.YtifapcpcemigdaaGreat
open Go.RowKit Go.Lib Go.Tk Go.Shelf Go.Vc Go.Sx
end Go.Proofs.YtifapcpcemigdaaGreat
end
section
namespace Go.Proofs.YtifapcpcemigdaaGreat
open Go.RowKit Go.Lib Go.Tk Go.Shelf Go.Vc Go.Sx Go.WideShapes
section
variable {H : Type} {enc : TypeId × Value → H} {w : World} {base : Nat} {spare : Nat → Bool} {held : Bool}
end
end Go.Proofs.YtifapcpcemigdaaGreat
end
section
namespace Go.Proofs.YtifapcpcemigdaaGreat
open Go.RowKit Go.Lib Go.Tk Go.Shelf Go.Vc Go.Sx
end Go.Proofs.YtifapcpcemigdaaGreat
end
section
namespace Go.Proofs.YtifapcpcemigdaaGreat
open Go.RowKit Go.Lib Go.Tk Go.Shelf Go.Vc Go.Sx
def Same17F : Nat := 17
def StatusesF : Nat := 43
theorem statuses_nil : CallOK Tryz.prog StatusesF [nilS, nilS] [] [] (.val (.bool true)) [] := callOK_runU 400 [] (by kernel_rfl) (by kernel_rfl)
theorem same17_nil : CallOK Tryz.prog Same17F [.agg (repS 8 tid0 0 nilS), .agg (repS 8 tid0 0 nilS)] [] [] (.val (.bool true)) [] := by
  have c1 := statuses_nil
  exact callOK_run 400 [hC 1 24 c1] (by kernel_rfl) (by kernel_rfl)
end Go.Proofs.YtifapcpcemigdaaGreat
end
section
namespace Go.Proofs.YtifapcpcemigdaaGreat
open Go.RowKit Go.Lib Go.Tk Go.Shelf Go.Vc Go.Sx
def Nil20F : Nat := 4
theorem try_nil (r : RecO) (S : SaleA) : CallOK Tryz.prog OffTryF [nilPO, .agg (recS r S)] [] [] (.tup [nilPO, .agg (repS 8 tid0 0 nilS), eN 8]) [] := callOK_run 400 [] (by kernel_rfl) (by kernel_rfl)
theorem osame_nn : CallOK Tryz.prog OffSameF [nilPO, nilPO] [] [] (.val (.bool true)) [] := callOK_run 400 [] (by kernel_rfl) (by kernel_rfl)
theorem osame_no (O : OffV) : CallOK Tryz.prog OffSameF [nilPO, .ptr 0 0 0] (offH O) [] (.val (.bool false)) [] := callOK_run 400 [] (by kernel_rfl) (by kernel_rfl)
theorem osame_on (O : OffV) : CallOK Tryz.prog OffSameF [.ptr 0 0 0, nilPO] (offH O) [] (.val (.bool false)) [] := callOK_run 400 [] (by kernel_rfl) (by kernel_rfl)
theorem nil20_w (F : CF) (x : OrX) : CallOK Tryz.prog Nil20F [.agg (recS x.c x.A)] [((0, 9), .fam F)] [] (.val (.bool true)) [] := by
  have c1 := try_nil x.c x.A
  have c2 := same17_nil
  have c3 := offNew_ok (self := 0) (n := 2) (by decide) (by decide)
  have c4 := offBook_nil
  have c5 := offPost_nil
  have c6 := offClone_nil
  have c7 := osame_nn
  have c8 := osame_no (offNew 0 2)
  have c9 := osame_on (offNew 0 2)
  have c10 := wakes20_w
  exact callOK_run 900 [hC 2 2 c1, hC 3 0 c3, hC 4 5 c2, hC 4 13 c4, hC 4 18 c5, hC 4 23 c6, hC 4 28 c7, hC 4 33 c8, hC 4 39 c9, hC 4 43 c10] (by kernel_rfl) (by kernel_rfl)
theorem nil20_any (x : OrX) (w : World) (_ : OrIn w x) : Calls Tryz.prog Nil20F #[.agg (orC x).toArray] w fun e w' => e = .returned (.bool true) ∧ Below w.heap.size w w' :=
  (nil20_w (fun _ _ => oldC w) x (fun _ _ => (0, undef)) [] w (Mem.old w)).mono fun e w' ⟨x, h, hm⟩ => ⟨h, (show Mem (oldC w :: []) w' from hm).below 0 rfl⟩
end Go.Proofs.YtifapcpcemigdaaGreat
end
section
namespace Go.Proofs.YtifapcpcemigdaaGreat.officeNilF
open Go
theorem closed : joinedFacts Tryz.pinned.checked.prog 4 Tryz.f4 Rows.officeNilSpec Rows.officeNilRow = true := by kernel_rfl
theorem inst : Tryz.f4.isInstance Tryz.pinned.checked.prog Rows.officeNilRow.origin Rows.officeNilRow.targs := of_decide_eq_true (by kernel_rfl)
theorem wrap : Tryz.f4.isWrapper Tryz.pinned.checked.prog Rows.officeNilRow.wrapper Rows.officeNilRow.mainSum := by
  unfold Func.isWrapper
  first | (rw [if_pos (by decide +kernel)]; kernel_rfl) | (rw [if_neg (by decide +kernel)]; exact ⟨rfl, rfl⟩)
end Go.Proofs.YtifapcpcemigdaaGreat.officeNilF
end
