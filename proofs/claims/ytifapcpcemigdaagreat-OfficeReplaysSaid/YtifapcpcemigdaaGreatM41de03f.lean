/- Bw, Of10, OpB, OfO, Of12, Pc4, Of13, Of14, Of15, Of16, Of17, FsOfficeReplays. -/
import Derived.Test.YtifapcpcemigdaaGreatMf331612
import Derived.Test.YtifapcpcemigdaaGreatMa8ea5ac
import Derived.Test.YtifapcpcemigdaaGreatM81af217
import Derived.Test.YtifapcpcemigdaaGreatM305ace2
import Derived.Test.YtifapcpcemigdaaGreatM151558f
import Derived.Test.YtifapcpcemigdaaGreatM533403a
import Derived.Test.YtifapcpcemigdaaGreatM3fa2fb6
import Derived.Test.YtifapcpcemigdaaGreatRows
import Derived.Test.YtifapcpcemigdaaGreatChecked
import Derived.ProofKit
import Derived.OpenShut
import Derived.ShutString
import Derived.ChangeOld
import Derived.Below
set_option maxRecDepth 100000
set_option linter.unusedVariables false
set_option linter.unusedSimpArgs false
set_option linter.unusedSectionVars false
section
namespace Go.Proofs.YtifapcpcemigdaaGreat
open Go.RowKit Go.Lib Go.Tk Go.Shelf Go.Vc Go.Sx
def sale15 : SaleV := ⟨⟨#[68, 79, 69, 47, 74]⟩, [⟨1, 0, 1⟩, ⟨0, 0, 1⟩], 101, [], 20⟩
theorem sale15_ok : SaleOk sale15 where
  name := by unfold maxLen; show (5 : Nat) ≤ _; decide
  legs := by intro l hl; simp [sale15] at hl; rcases hl with rfl | rfl <;> (unfold LegOk; decide)
  taxes := by intro t ht; cases ht
  fare := by decide
  pen := by decide
  nl := by decide
  nt := by decide
def t15 : Tid := ⟨1, 1⟩
def C15 : BookV := ⟨1, 3, [⟨t15, sale15, [51, 50], ⟨0, 0⟩, ⟨0, 0⟩, 0, 101, 0, 0, 0⟩], [(⟨t15, 0⟩, ownNew ⟨1, 0, 1⟩ 51), (⟨t15, 1⟩, ownNew ⟨0, 0, 1⟩ 50)], []⟩
theorem sort_15 : Go.Tk.sortL (restsL 101 2 [1, 1]) = [(1, 0), (1, 1)] := by
  refine (sortL_unique ?_ ?_).symm
  · decide
  · decide
theorem share_15 : shareV 101 [1, 1] = [51, 50] := by
  have e : shareE 101 [1, 1] = 0 := by decide
  unfold shareV
  rw [if_pos e]
  unfold shareL chosen
  have hs : ([1, 1] : List Int).sum = 2 := by decide
  rw [hs, sort_15]
  decide
theorem share15 : shareV sale15.fare (wsOf sale15) = [51, 50] := share_15
theorem iss15 : (bookNew 1 3).issued sale15 = C15 := by unfold BookV.issued docMade; rw [share15]; rfl
end Go.Proofs.YtifapcpcemigdaaGreat
end
section
namespace Go.Proofs.YtifapcpcemigdaaGreat
open Go.RowKit Go.Lib Go.Tk Go.Shelf Go.Vc Go.Sx
def recX (r : RecO) (x y : SV) : List SV := [.val (.int .u8 r.kind), .val (.int .u8 r.cmd.kind), .val (.int .u8 r.cmd.t.c), .val (.int .u64 r.cmd.t.r), .val (.int .u8 r.cmd.i)] ++ salS r.cmd.s x y ++ [.val (.int .i64 r.cmd.amt), .val (.int .u8 r.src), .val (.int .u64 r.num)] ++ msS r.m
theorem rec_args (r : RecO) : ∀ ε ε' x y x' y', SV.den ε x = SV.den ε' x' → SV.den ε y = SV.den ε' y' → (∀ s k, noTen s k = true → ε s k = ε' s k) → SV.dens ε [.ptr 0 0 0, .agg (recX r x y)] = SV.dens ε' [.ptr 0 0 0, .agg (recX r x' y')] := fun ε ε' x y x' y' h1 h2 h3 => by
  simp only [SV.dens, SV.den, recX, salS, msS, List.cons_append, List.nil_append, h1, h2, h3 0 0 rfl]
theorem try_D {O : OffV} {n : Nat} (h : OI O n) (hn : n < 4294967296) {r : RecO} (g : RecG r) :
    CallOK Tryz.prog OffTryF [.ptr 0 0 0, .agg (recX r (.raw 0 10) (.raw 0 11))] [((0, 10), legD r.cmd.s.legs.length r.cmd.s.legs), ((0, 11), taxD r.cmd.s.taxes.length r.cmd.s.taxes)] (offH O) (tryV (tryQ O r)) (tryP O (tryQ O r)) := by
  refine raw2 (args := fun x y => [.ptr 0 0 0, .agg (recX r x y)]) (rec_args r) (fun F A hl ht h1 h2 => try_w (F := F) h hn (r := r) (S := A) ⟨g.ok, g.ms, ⟨g.kind, g.t, g.i, g.sal, hl, ht, h1, h2⟩⟩) rfl ?_ ?_
  · unfold tryV; cases decide ((tryQ O r).e = 0) <;> rfl
  · unfold tryP; cases decide ((tryQ O r).e = 0) <;> rfl
def msg20 : MsV := ⟨0, ⟨⟨0, 0⟩, 0⟩, ⟨⟨0, 0, 0⟩, 0, 0, 0⟩, 0, 0⟩
def saleZ : SaleV := ⟨⟨#[]⟩, [], 0, [], 0⟩
def cmdZ : CmdO := ⟨0, ⟨0, 0⟩, 0, saleZ, 0⟩
theorem saleZ_ok : SaleOk saleZ where
  name := by unfold maxLen; show (0 : Nat) ≤ _; decide
  legs := by intro l hl; cases hl
  taxes := by intro t ht; cases ht
  fare := by decide
  pen := by decide
  nl := by decide
  nt := by decide
def wantZ : MsV := ⟨1, ⟨t15, 1⟩, ⟨⟨0, 0, 0⟩, 0, 0, 0⟩, 0, 0⟩
def r20a : RecO := ⟨1, ⟨1, ⟨0, 0⟩, 0, sale15, 0⟩, 0, 0, msg20⟩
def r20 (num : Int) : RecO := ⟨2, cmdZ, 0, num, wantZ⟩
theorem r20a_ok : RecG r20a := ⟨⟨by decide, by decide, by decide, by decide, ⟨⟨by decide, by decide⟩, by decide, by decide⟩⟩, ⟨by decide, by decide⟩, by decide, ⟨by decide, by decide⟩, by decide, sale15_ok⟩
theorem r20_ok {n : Int} (hn : 0 ≤ n ∧ n ≤ 18446744073709551615) : RecG (r20 n) := ⟨⟨(by show (0 : Int) ≤ 2 ∧ (2 : Int) ≤ 255; decide), (by show (0 : Int) ≤ 0 ∧ (0 : Int) ≤ 255; decide), hn, (by show (0 : Int) ≤ 1 ∧ (1 : Int) ≤ 255; decide), ⟨⟨(by show (0 : Int) ≤ 1 ∧ (1 : Int) ≤ 255; decide), (by show (0 : Int) ≤ 1 ∧ (1 : Int) ≤ _; decide)⟩, by show (0 : Int) ≤ 1; decide, by show (1 : Int) ≤ 255; decide⟩⟩, ⟨(by show (0 : Int) ≤ 0; decide), (by show (0 : Int) ≤ 255; decide)⟩, (by show (0 : Int) ≤ 0 ∧ (0 : Int) ≤ 255; decide), ⟨(by show (0 : Int) ≤ 0 ∧ (0 : Int) ≤ 255; decide), (by show (0 : Int) ≤ 0 ∧ (0 : Int) ≤ _; decide)⟩, (by show (0 : Int) ≤ 0 ∧ (0 : Int) ≤ 255; decide), saleZ_ok⟩
def O20 : OffV := offNew 1 3
def O20b : OffV := ⟨C15, newP 1 3⟩
theorem O20_oi : OI O20 0 := new_oi (by decide) (by decide)
theorem iss20 : exIssue (bookNew 1 3) sale15 = ⟨0, t15, 101, [1, 1], C15⟩ := by
  unfold exIssue
  have e : decide ((bookNew 1 3).issE sale15 = 0) = true := by kernel_rfl
  rw [e]
  show toldX ((bookNew 1 3).issued sale15) (bookNew 1 3).nextT (priceI sale15) = _
  rw [iss15]
  unfold toldX
  rw [show priceI sale15 = 101 by kernel_rfl]
  kernel_rfl
theorem q20a : tryQ O20 r20a = ⟨0, 0, t15, 101, [1, 1], O20b⟩ := by
  show cmdTQ O20.p (exIssue (bookNew 1 3) sale15) = _
  rw [iss20]
  rfl
theorem O20b_oi : OI O20b 1 := by
  have h := try_oi O20_oi (by decide) r20a_ok
  rw [q20a] at h
  exact h
def Sale20F : Nat := 21
def Wakes20F : Nat := 8
theorem sale20_w : CallOK Tryz.prog Sale20F [] [] [] (.agg (salS sale15 (.raw 1 0) nilS)) [((1, 0), legD 2 sale15.legs)] := callOK_run 400 [] (by kernel_rfl) (by kernel_rfl)
theorem wakes20_w : CallOK Tryz.prog Wakes20F [] [] [] (.val (.bool true)) [] := by
  have n1 := offNew_ok (self := 1) (n := 3) (by decide) (by decide)
  have n2 := sale20_w
  have n3 := try_D O20_oi (by decide) r20a_ok
  rw [q20a] at n3
  have n4 := try_D O20b_oi (by decide) (r20_ok (n := 2) (by decide))
  rw [(try_n (O := O20b) (q := tryQ O20b (r20 2)) (by decide)).1, (try_n (by decide)).2] at n4
  rw [show (tryQ O20b (r20 2)).e = 6 by kernel_rfl] at n4
  have n5 := try_D O20b_oi (by decide) (r20_ok (n := 1) (by decide))
  rw [(try_e (O := O20b) (q := tryQ O20b (r20 1)) (by decide)).1, (try_e (by decide)).2] at n5
  have iq := try_oi O20b_oi (by decide) (r20_ok (n := 1) (by decide))
  have lq : lenP (tryQ O20b (r20 1)).o.p 0 = 1 := by kernel_rfl
  generalize tryQ O20b (r20 1) = q at n5 iq lq
  have n6 := offPost_w iq.off
  have n7 := len_c q.o.p 0 (by decide) (by decide)
  rw [lq] at n7
  have n8 := offPost_w O20b_oi.off
  have n9 := len_c O20b.p 0 (by decide) (by decide)
  rw [show lenP O20b.p 0 = 0 by kernel_rfl] at n9
  have n10 := offBook_w O20_oi.off
  have n11 := tickets_c O20_oi.bk.bi.ex.bk
  exact callOK_run 900 [hC 1 0 n1, hC 4 1 n2, hC 4 4 n3, hC 8 3 n4, hC 9 3 n5, hC 10 8 n6, hC 10 9 n7, hC 10 14 n8, hC 10 15 n9, hC 10 20 n10, hC 10 21 n11] (by kernel_rfl) (by kernel_rfl)
end Go.Proofs.YtifapcpcemigdaaGreat
end
section
namespace Go.Proofs.YtifapcpcemigdaaGreat
open Go.RowKit Go.Lib Go.Tk Go.Shelf Go.Vc Go.Sx Go.WideShapes
def saleC (s : SaleV) (A : SaleA) : List Value := [.string s.name, .slice A.la s.legs.length A.lc, .int .i64 s.fare, .slice A.ta s.taxes.length A.tc, .int .i64 s.pen]
section
variable {H : Type} {enc : TypeId × Value → H} {w : World} {base : Nat} {spare : Nat → Bool} {held : Bool}
theorem FlatAs.split : ∀ {ts us : List TypeId} {cs : List Value}, FlatAs enc Tryz.prog w base spare held (ts ++ us) cs → ∃ a b, cs = a ++ b ∧ FlatAs enc Tryz.prog w base spare held ts a ∧ FlatAs enc Tryz.prog w base spare held us b
  | [], us, cs, h => ⟨[], cs, rfl, rfl, h⟩
  | t :: ts, us, cs, ⟨v, cs', e, hv, h⟩ => by
    obtain ⟨a, b, h1, ha, hb⟩ := FlatAs.split h
    subst h1
    subst e
    exact ⟨v :: a, b, rfl, ⟨v, a, rfl, hv, ha⟩, hb⟩
theorem sale_of {cs : List Value} (h : FlatAs enc Tryz.prog w base spare held [9, 29, 2, 30, 2] cs) : ∃ s A, saleC s A = cs ∧ SaleAt w s A ∧ SaleW s := by
  obtain ⟨v0, _, rfl, ⟨n0, y0, h0⟩, v1, _, rfl, ⟨n1, y1, h1⟩, v2, _, rfl, ⟨n2, y2, h2⟩, v3, _, rfl, ⟨n3, y3, h3⟩, v4, _, rfl, ⟨n4, y4, h4⟩, rfl⟩ := h
  obtain ⟨a0, e0, w0⟩ := string_cell Tryz.underlying9 h0
  cases e0
  obtain ⟨b1, a1, c1, e1, r1, i1, m1, o1⟩ := legs_cell h1
  cases e1
  obtain ⟨a2, e2, w2⟩ := int_cell Tryz.underlying2 h2
  cases e2
  obtain ⟨b3, a3, c3, e3, r3, i3, m3, o3⟩ := taxes_cell h3
  cases e3
  obtain ⟨a4, e4, w4⟩ := int_cell Tryz.underlying2 h4
  cases e4
  exact ⟨⟨a0, a1, a2, a3, a4⟩, ⟨b1, c1, b3, c3⟩, rfl, ⟨r1, r3, i1, i3⟩, ⟨w0, o1, o3, wfi64 w2, wfi64 w4, m1, m3⟩⟩
end
end Go.Proofs.YtifapcpcemigdaaGreat
end
section
namespace Go.Proofs.YtifapcpcemigdaaGreat
open Go.RowKit Go.Lib Go.Tk Go.Shelf Go.Vc Go.Sx Go.WideShapes
structure OrX where
  c : RecO
  A : SaleA
def orHeadC (c : RecO) : List Value := [.int .u8 c.kind, .int .u8 c.cmd.kind, .int .u8 c.cmd.t.c, .int .u64 c.cmd.t.r, .int .u8 c.cmd.i]
def orMidC (c : RecO) : List Value := [.int .i64 c.cmd.amt, .int .u8 c.src, .int .u64 c.num]
def orC (x : OrX) : List Value := orHeadC x.c ++ (saleC x.c.cmd.s x.A ++ (orMidC x.c ++ msL x.c.m))
structure OrIn (w : World) (x : OrX) : Prop where
  at_ : SaleAt w x.c.cmd.s x.A
  ok : SaleW x.c.cmd.s
  kind : 0 ≤ x.c.kind ∧ x.c.kind ≤ 255
  ck : 0 ≤ x.c.cmd.kind ∧ x.c.cmd.kind ≤ 255
  ct : TidOk x.c.cmd.t
  ci : 0 ≤ x.c.cmd.i ∧ x.c.cmd.i ≤ 255
  src : 0 ≤ x.c.src ∧ x.c.src ≤ 255
  num : 0 ≤ x.c.num ∧ x.c.num ≤ 18446744073709551615
  mkd : 0 ≤ x.c.m.kind ∧ x.c.m.kind ≤ 255
  ms : InB x.c.m.k.s
  key : KidOk x.c.m.key
section
variable {H : Type} {enc : TypeId × Value → H} {w : World} {base : Nat} {spare : Nat → Bool} {held : Bool}
theorem orHead_of {cs : List Value} (h : FlatAs enc Tryz.prog w base spare held [5, 5, 5, 33, 5] cs) : ∃ b c : Int, ∃ t : Tid, ∃ i : Int, [Value.int .u8 b, .int .u8 c, .int .u8 t.c, .int .u64 t.r, .int .u8 i] = cs ∧ (0 ≤ b ∧ b ≤ 255) ∧ (0 ≤ c ∧ c ≤ 255) ∧ TidOk t ∧ 0 ≤ i ∧ i ≤ 255 := by
  obtain ⟨v0, _, rfl, ⟨n0, y0, h0⟩, v1, _, rfl, ⟨n1, y1, h1⟩, v2, _, rfl, ⟨n2, y2, h2⟩, v3, _, rfl, ⟨n3, y3, h3⟩, v4, _, rfl, ⟨n4, y4, h4⟩, rfl⟩ := h
  obtain ⟨a0, e0, w0⟩ := int_cell Tryz.underlying5 h0
  cases e0
  obtain ⟨a1, e1, w1⟩ := int_cell Tryz.underlying5 h1
  cases e1
  obtain ⟨a2, e2, w2⟩ := int_cell Tryz.underlying5 h2
  cases e2
  obtain ⟨a3, e3, w3⟩ := int_cell Tryz.underlying33 h3
  cases e3
  obtain ⟨a4, e4, w4⟩ := int_cell Tryz.underlying5 h4
  cases e4
  exact ⟨a0, a1, ⟨a2, a3⟩, a4, rfl, wfu8 w0, wfu8 w1, ⟨wfu8 w2, wfu64 w3⟩, wfu8 w4⟩
theorem orMid_of {cs : List Value} (h : FlatAs enc Tryz.prog w base spare held [2, 5, 33] cs) : ∃ a b c : Int, [Value.int .i64 a, .int .u8 b, .int .u64 c] = cs ∧ (0 ≤ b ∧ b ≤ 255) ∧ 0 ≤ c ∧ c ≤ 18446744073709551615 := by
  obtain ⟨v0, _, rfl, ⟨n0, y0, h0⟩, v1, _, rfl, ⟨n1, y1, h1⟩, v2, _, rfl, ⟨n2, y2, h2⟩, rfl⟩ := h
  obtain ⟨a0, e0, w0⟩ := int_cell Tryz.underlying2 h0
  cases e0
  obtain ⟨a1, e1, w1⟩ := int_cell Tryz.underlying5 h1
  cases e1
  obtain ⟨a2, e2, w2⟩ := int_cell Tryz.underlying33 h2
  cases e2
  exact ⟨a0, a1, a2, rfl, wfu8 w1, wfu64 w2⟩
theorem orMsg_of {cs : List Value} (h : FlatAs enc Tryz.prog w base spare held [5, 5, 33, 5, 5, 40, 41, 2, 44, 41, 2, 26] cs) : ∃ m : MsV, msL m = cs ∧ (0 ≤ m.kind ∧ m.kind ≤ 255) ∧ InB m.k.s ∧ KidOk m.key := by
  obtain ⟨v0, _, rfl, ⟨n0, y0, h0⟩, v1, _, rfl, ⟨n1, y1, h1⟩, v2, _, rfl, ⟨n2, y2, h2⟩, v3, _, rfl, ⟨n3, y3, h3⟩, v4, _, rfl, ⟨n4, y4, h4⟩, v5, _, rfl, ⟨n5, y5, h5⟩, v6, _, rfl, ⟨n6, y6, h6⟩, v7, _, rfl, ⟨n7, y7, h7⟩, v8, _, rfl, ⟨n8, y8, h8⟩, v9, _, rfl, ⟨n9, y9, h9⟩, v10, _, rfl, ⟨n10, y10, h10⟩, v11, _, rfl, ⟨n11, y11, h11⟩, rfl⟩ := h
  obtain ⟨a0, e0, w0⟩ := int_cell Tryz.underlying5 h0
  cases e0
  obtain ⟨a1, e1, w1⟩ := int_cell Tryz.underlying5 h1
  cases e1
  obtain ⟨a2, e2, w2⟩ := int_cell Tryz.underlying33 h2
  cases e2
  obtain ⟨a3, e3, w3⟩ := int_cell Tryz.underlying5 h3
  cases e3
  obtain ⟨a4, e4, w4⟩ := int_cell Tryz.underlying5 h4
  cases e4
  obtain ⟨a5, e5, w5⟩ := int_cell Tryz.underlying40 h5
  cases e5
  obtain ⟨a6, e6, w6⟩ := int_cell Tryz.underlying41 h6
  cases e6
  obtain ⟨a7, e7, w7⟩ := int_cell Tryz.underlying2 h7
  cases e7
  obtain ⟨a8, e8, w8⟩ := int_cell Tryz.underlying44 h8
  cases e8
  obtain ⟨a9, e9, w9⟩ := int_cell Tryz.underlying41 h9
  cases e9
  obtain ⟨a10, e10, w10⟩ := int_cell Tryz.underlying2 h10
  cases e10
  obtain ⟨a11, e11, w11⟩ := int_cell Tryz.underlying26 h11
  cases e11
  exact ⟨⟨a0, ⟨⟨a1, a2⟩, a3⟩, ⟨⟨a4, a5, a6⟩, a7, a8, a9⟩, a10, a11⟩, rfl, wfu8 w0, wfu8 w8, ⟨wfu8 w1, wfu64 w2⟩, wfu8 w3⟩
def orTs : List TypeId := [5, 5, 5, 33, 5] ++ ([9, 29, 2, 30, 2] ++ ([2, 5, 33] ++ [5, 5, 33, 5, 5, 40, 41, 2, 44, 41, 2, 26]))
theorem or_of {cs : List Value} (h : FlatAs enc Tryz.prog w base spare held orTs cs) : ∃ x : OrX, orC x = cs ∧ OrIn w x := by
  obtain ⟨x1, r1, e1, h1, g1⟩ := FlatAs.split h
  obtain ⟨x2, r2, e2, h2, g2⟩ := FlatAs.split g1
  obtain ⟨x3, x4, e3, h3, h4⟩ := FlatAs.split g2
  obtain ⟨b, c, t, i, f1, k2, k3, k4, k5⟩ := orHead_of h1
  obtain ⟨s, A, f2, s1, s2⟩ := sale_of h2
  obtain ⟨am, src, num, f3, k6, k6b⟩ := orMid_of h3
  obtain ⟨m, f4, k6c, k6d, k7⟩ := orMsg_of h4
  refine ⟨⟨⟨b, ⟨c, t, i, s, am⟩, src, num, m⟩, A⟩, ?_, ⟨s1, s2, k2, k3, k4, k5, k6, k6b, k6c, k6d, k7⟩⟩
  rw [e1, e2, e3, ← f1, ← f2, ← f3, ← f4]
  rfl
theorem or_flat : flatT Tryz.prog 6 50 = some orTs := by kernel_rfl
theorem ors_cell {n : Nat} {v : Value} {y : DataW H × List MemPlace} (h : DataW.trod enc Tryz.prog w base spare held n 22 [v] = some y) :
    ∃ (a : Option Addr) (l : List OrX) (c : Nat), v = .slice a l.length c ∧ Row w a (cellsL orC l) ∧ (a = none → c = 0) ∧ l.length ≤ maxLen ∧ ∀ x ∈ l, OrIn w x := by
  obtain ⟨a, len, cap, rows, rfl, hlen, hrows, hr, hn, hm, _⟩ := slice_rows (fun cs => ∃ l : OrX, orC l = cs ∧ OrIn w l) Tryz.underlying22 (show Tryz.prog.cellsOf 50 = 25 by kernel_rfl) (by decide)
    (fun n cs y hl h => or_of (flat_of 6 _ _ or_flat n cs y h (by rw [hl]; kernel_rfl))) h
  obtain ⟨l, hl⟩ := listOf (enc := fun x : { x : OrX // OrIn w x } => orC x.1) (Q := fun cs => ∃ l : OrX, orC l = cs ∧ OrIn w l) (fun r ⟨x, hx, hk⟩ => ⟨⟨x, hk⟩, hx⟩) rows (fun r hr => (hrows r hr).2)
  have hl2 : (l.map (·.1)).map orC = rows := by rw [List.map_map]; exact hl
  have hl3 : (l.map (·.1)).length = len := by rw [← hlen, ← hl2]; simp
  refine ⟨a, l.map (·.1), cap, by rw [hl3], ?_, hn, by rw [hl3]; exact hm, fun x hx => ?_⟩
  · unfold cellsL; rw [hl2]; exact hr
  · obtain ⟨z, _, rfl⟩ := List.mem_map.1 hx; exact z.2
theorem open_or {r : Reach} {b0 : Nat} {v : Value} {d : DataW H} {p : List MemPlace} (hv : Value.okWide Tryz.prog w r b0 50 v) (h : DataW.Trod enc Tryz.prog w base spare held 50 v d p) :
    ∃ x : OrX, v = .agg (orC x).toArray ∧ OrIn w x := by
  obtain ⟨cs, rfl, hf⟩ := flat_open 6 Tryz.underlying50 or_flat hv h
  obtain ⟨x, rfl, ok⟩ := or_of hf
  exact ⟨x, rfl, ok⟩
end
end Go.Proofs.YtifapcpcemigdaaGreat
end
section
namespace Go.Proofs.YtifapcpcemigdaaGreat
open Go.RowKit Go.Lib Go.Tk Go.Shelf Go.Vc Go.Sx
def OrT : TypeId := 22
def orZ : OrX := ⟨⟨0, ⟨0, ⟨0, 0⟩, 0, ⟨⟨#[]⟩, [], 0, [], 0⟩, 0⟩, 0, 0, ⟨0, ⟨⟨0, 0⟩, 0⟩, ⟨⟨0, 0, 0⟩, 0, 0, 0⟩, 0, 0⟩⟩, ⟨none, 0, none, 0⟩⟩
def orX (x : OrX) : List SV := recS x.c x.A
theorem orX_den (x : OrX) (ε : Env) : SV.dens ε (orX x) = orC x := rfl
theorem or_nth {l : List OrX} {i : Nat} (h : i < l.length) : ∀ (ε : Env) (q : Nat) (v : SV), (orX (l.getD i orZ))[q]? = some v → (cellsL orC l)[i * 25 + q]? = some (v.den ε) :=
  cells_nth (enc := orC) (encS := orX) orX_den (fun _ => rfl) (getD_some h orZ)
theorem or_len (l : List OrX) : (cellsL orC l).length = l.length * 25 := cellsL_len (enc := orC) (size := 25) (fun _ => rfl) l
def greatR (x : OrX) : Bool := decide ((20 : Int) < (x.c.cmd.s.legs.length : Int)) || (decide ((20 : Int) < (x.c.cmd.s.taxes.length : Int)) || decide ((200 : Int) < (x.c.cmd.s.name.size : Int)))
def greatB20 (l : List OrX) : Bool := decide ((120 : Int) < (l.length : Int)) || l.any greatR
def Great20F : Nat := 7
theorem great20_w (F : CF) {a : Option Addr} {cap : Nat} {l : List OrX} (hR : ∀ b v, Rd (F b v) a (cellsL orC l)) :
    CallOK Tryz.prog Great20F [.val (.slice a l.length cap), .val (.int .i64 120)] [((0, 9), .fam F)] [] (.val (.bool (greatB20 l))) [] := by
  rcases Bool.eq_false_or_eq_true (decide ((120 : Int) < (l.length : Int))) with g | g
  · rw [show greatB20 l = true by unfold greatB20; rw [g]; rfl]
    exact callOK_run 400 [hB 1 3 _ _ g] (by kernel_rfl) (by kernel_rfl)
  have hl150 : l.length ≤ 120 := by have := of_decide_eq_false g; omega
  refine callOK_intro (by kernel_rfl) fun eb R => ?_
  refine go_loop (X := { i : Nat // i ≤ l.length ∧ ∀ j, j < i → greatR (l.getD j orZ) = false }) 0 [] (fun x => ([(0, .val (.slice a l.length cap)), (5, .val (.int .i64 (x.1 : Int)))], [((0, 9), .fam F)])) (fun x => l.length - x.1) ⟨0, Nat.zero_le _, fun j hj => absurd hj (Nat.not_lt_zero _)⟩ calNone false 400 [hB 1 3 _ _ g] calNone_ok (by kernel_rfl) ?_
  rintro ⟨i, hi, hd⟩ J hJ
  by_cases h : i < l.length
  · have hin : l.getD i orZ ∈ l := List.mem_of_getElem? (getD_some h orZ)
    have q0 : decide ((i : Int) < (l.length : Int)) = true := decide_eq_true (by omega)
    have q1 := idx_openG (P := Tryz.prog) (t := OrT) (e := 50) (size := 25) (j := 9) (k := .i64) (cap := cap) (n := l.length) Tryz.underlying22 (by kernel_rfl) (or_len l) hR h
    have hpos : 0 < (cellsL orC l).length := by rw [or_len]; omega
    have q2 := load_openG2 (P := Tryz.prog) (t := 32) (k := i * 25) (j := 9) (u := .agg (salS (l.getD i orZ).c.cmd.s (.val (.slice (l.getD i orZ).A.la (l.getD i orZ).c.cmd.s.legs.length (l.getD i orZ).A.lc)) (.val (.slice (l.getD i orZ).A.ta (l.getD i orZ).c.cmd.s.taxes.length (l.getD i orZ).A.tc)))) 1 4 (by kernel_rfl) hR (or_nth h) hpos
    have q9 : IntKind.i64.wrap ((i : Int) + 1) = ((i + 1 : Nat) : Int) := by rw [wr_i64 (by omega)]; omega
    have bad : greatR (l.getD i orZ) = true → greatB20 l = true := fun e => by
      unfold greatB20
      rw [List.any_eq_true.2 ⟨_, hin, e⟩, Bool.or_true]
    have good : greatR (l.getD i orZ) = false → ∀ j, j < i + 1 → greatR (l.getD j orZ) = false := fun e j hj => by
      by_cases q : j = i
      · subst q; exact e
      · exact hd j (by omega)
    generalize hx : l.getD i orZ = x at *
    rcases Bool.eq_false_or_eq_true (decide ((20 : Int) < (x.c.cmd.s.legs.length : Int))) with g1 | g1
    · rw [bad (by unfold greatR; rw [g1]; rfl)]
      exact leaf_end calNone false 400 [hB 4 3 _ _ q0, hG 6 2 q1, hG 6 5 q2, hB 7 3 _ _ g1] calNone_ok (by kernel_rfl)
    rcases Bool.eq_false_or_eq_true (decide ((20 : Int) < (x.c.cmd.s.taxes.length : Int))) with g2 | g2
    · rw [bad (by unfold greatR; rw [g1, g2]; rfl)]
      exact leaf_end calNone false 400 [hB 4 3 _ _ q0, hG 6 2 q1, hG 6 5 q2, hB 7 3 _ _ g1, hB 7 8 _ _ g2] calNone_ok (by kernel_rfl)
    rcases Bool.eq_false_or_eq_true (decide ((200 : Int) < (x.c.cmd.s.name.size : Int))) with g3 | g3
    · rw [bad (by unfold greatR; rw [g1, g2, g3]; rfl)]
      exact leaf_end calNone false 400 [hB 4 3 _ _ q0, hG 6 2 q1, hG 6 5 q2, hB 7 3 _ _ g1, hB 7 8 _ _ g2, hB 7 14 _ _ g3] calNone_ok (by kernel_rfl)
    have gg : greatR x = false := by unfold greatR; rw [g1, g2, g3]; rfl
    have hJ' := hJ ⟨i + 1, h, good gg⟩ (by show _ - (i + 1) < _ - i; omega)
    exact leaf_next calNone false 400 [hB 4 3 _ _ q0, hG 6 2 q1, hG 6 5 q2, hB 7 3 _ _ g1, hB 7 8 _ _ g2, hB 7 14 _ _ g3, hI 5 1 IntKind.i64 _ _ q9] calNone_ok hJ' (by kernel_rfl)
  · have q0 : decide ((i : Int) < (l.length : Int)) = false := decide_eq_false (by omega)
    have e : greatB20 l = false := by
      unfold greatB20
      rw [g, Bool.false_or, List.any_eq_false]
      intro x hx
      obtain ⟨j, hj, rfl⟩ := List.getElem_of_mem hx
      have := hd j (by omega)
      rw [List.getD_eq_getElem?_getD, List.getElem?_eq_getElem hj] at this
      simpa using this
    rw [e]
    exact leaf_end calNone false 400 [hB 4 3 _ _ q0] calNone_ok (by kernel_rfl)
theorem greatB20_no {l : List OrX} (h : greatB20 l = false) : l.length ≤ 120 ∧ ∀ x ∈ l, x.c.cmd.s.legs.length ≤ 20 ∧ x.c.cmd.s.taxes.length ≤ 20 := by
  unfold greatB20 at h
  rw [Bool.or_eq_false_iff] at h
  refine ⟨by have := of_decide_eq_false h.1; omega, fun x hx => ?_⟩
  have := List.any_eq_false.1 h.2 x hx
  unfold greatR at this
  simp only [Bool.not_eq_true, Bool.or_eq_false_iff, decide_eq_false_iff_not] at this
  omega
abbrev OrRd (F : CF) (x : OrX) : Prop := RecRd F x.c x.A
theorem orRd_of {w : World} {x : OrX} (h : OrIn w x) (h1 : x.c.cmd.s.legs.length ≤ 1000) (h2 : x.c.cmd.s.taxes.length ≤ 1000) : OrRd (fun _ _ => oldC w) x where
  ok := ⟨h.kind, h.src, h.num, h.mkd, h.key⟩
  ms := h.ms
  cmd := ⟨h.ck, h.ct, h.ci, h.ok.small h1 h2, fun _ _ => rd_old h.at_.legs, fun _ _ => rd_old h.at_.taxes, slOk_row h.at_.legs (fun _ e => by rw [cellsL_len encLeg_len] at e; omega) h.at_.lnil, slOk_row h.at_.taxes (fun _ e => by rw [encTaxL_len] at e; omega) h.at_.tnil⟩
def runO (O : OffV) (l : List OrX) : Nat → OffV
  | 0 => O
  | i + 1 => stepO (runO O l i) (l.getD i orZ).c
theorem runO_oi {F : CF} {O : OffV} {n : Nat} (h : OI O n) {l : List OrX} (hl : ∀ x ∈ l, OrRd F x) : ∀ i, i ≤ l.length → n + i < 4294967296 → OI (runO O l i) (n + i)
  | 0, _, _ => h
  | i + 1, hi, hn => step_oi (runO_oi h hl i (by omega) (by omega)) (by omega) (hl _ (List.mem_of_getElem? (getD_some (by omega) orZ))).g
theorem try_x {F : CF} {O : OffV} {n : Nat} (h : OI O n) (hn : n < 4294967296) {x : OrX} (hr : OrRd F x) : CallOK Tryz.prog OffTryF [.ptr 0 0 0, .agg (orX x)] [((0, 9), .fam F)] (offH O) (tryV (tryQ O x.c)) (tryP O (tryQ O x.c)) := try_w h hn hr
end Go.Proofs.YtifapcpcemigdaaGreat
end
section
namespace Go.Proofs.YtifapcpcemigdaaGreat
open Go.RowKit Go.Lib Go.Tk Go.Shelf Go.Maps Go.Vc Go.Sx
def EqMF : Nat := 80
def PSameF : Nat := 46
def MsgT : TypeId := 117
def msgZ : Msg := ⟨0, 0, 0, 0, 0, 0, 0, 0, 0, 0, 0, 0⟩
theorem msg_nth {l : List Msg} {i : Nat} (h : i < l.length) : ∀ (ε : Env) (q : Nat) (v : SV), (msgS (l.getD i msgZ))[q]? = some v → (cellsL encMsg l)[i * 12 + q]? = some (v.den ε) :=
  cells_nth (enc := encMsg) (encS := msgS) (fun _ _ => rfl) (fun _ => rfl) (getD_some h msgZ)
theorem msg_len (l : List Msg) : (cellsL encMsg l).length = l.length * 12 := cellsL_len (enc := encMsg) (size := 12) (fun _ => rfl) l
def msgEq (a b : Msg) : Bool := decide (a.k = b.k) && (((decide (a.tc = b.tc) && (decide (a.tr = b.tr) && true)) && (decide (a.ix = b.ix) && true)) && (((decide (a.lc = b.lc) && (decide (a.lf = b.lf) && (decide (a.lx = b.lx) && true))) && (decide (a.v = b.v) && (decide (a.st = b.st) && (decide (a.nn = b.nn) && true)))) && (decide (a.amt = b.amt) && (decide (a.cd = b.cd) && true))))
theorem msgEq_self (a : Msg) : (!msgEq a a) = false := by simp [msgEq]
theorem eqM_w (F G : PnF) {l : List Msg} {a a' : Option Addr} {cp cp' : Nat} (hR : ∀ b v, Rd (F b v) a (cellsL encMsg l)) (hR' : ∀ b v, Rd (G b v) a' (cellsL encMsg l)) (hl : l.length ≤ 1000) :
    CallOK Tryz.prog EqMF [.val (.slice a l.length cp), .val (.slice a' l.length cp')] [((0, 0), .fam F), ((0, 1), .fam G)] [] (.val (.bool true)) [] := by
  have q8 : (!decide ((l.length : Int) = (l.length : Int))) = false := by simp
  refine callOK_intro (by kernel_rfl) fun eb R => ?_
  refine go_loop (X := { i : Nat // i ≤ l.length }) 0 [] (fun x => ([(0, .val (.slice a l.length cp)), (1, .val (.slice a' l.length cp')), (12, .val (.int .i64 (l.length : Int))), (13, .val (.int .i64 (x.1 : Int)))], [((0, 0), .fam F), ((0, 1), .fam G)])) (fun x => l.length - x.1) ⟨0, Nat.zero_le _⟩ calNone false 400 [hB 1 4 _ _ q8] calNone_ok (by kernel_rfl) ?_
  rintro ⟨i, hi⟩ J hJ
  by_cases h : i < l.length
  · have q0 : decide ((i : Int) < (l.length : Int)) = true := decide_eq_true (by omega)
    have q1 := idx_openG (P := Tryz.prog) (t := MsgT) (e := 48) (size := 12) (j := 0) (k := .i64) (cap := cp) (n := l.length) Tryz.underlying117 (by kernel_rfl) (msg_len l) hR h
    have q2 := idx_openG (P := Tryz.prog) (t := MsgT) (e := 48) (size := 12) (j := 1) (k := .i64) (cap := cp') (n := l.length) Tryz.underlying117 (by kernel_rfl) (msg_len l) hR' h
    have hpos : 0 < (cellsL encMsg l).length := by rw [msg_len]; omega
    have q3 := load_openG0 (P := Tryz.prog) (t := 48) (k := i * 12) (j := 0) (u := .agg (msgS (l.getD i msgZ))) (by kernel_rfl) hR (msg_nth h) hpos
    have q4 := load_openG0 (P := Tryz.prog) (t := 48) (k := i * 12) (j := 1) (u := .agg (msgS (l.getD i msgZ))) (by kernel_rfl) hR' (msg_nth h) hpos
    have q5 := msgEq_self (l.getD i msgZ)
    have q9 : IntKind.i64.wrap ((i : Int) + 1) = ((i + 1 : Nat) : Int) := by rw [wr_i64 (by omega)]; omega
    exact leaf_next calNone false 400 [hB 4 0 _ _ q0, hG 6 2 q1, hG 6 3 q3, hG 6 6 q2, hG 6 7 q4, hB 6 8 _ _ q5, hI 8 0 IntKind.i64 _ _ q9] calNone_ok (hJ ⟨i + 1, h⟩ (by show _ - (i + 1) < _ - i; omega)) (by kernel_rfl)
  · have q0 : decide ((i : Int) < (l.length : Int)) = false := decide_eq_false (by omega)
    exact leaf_end calNone false 400 [hB 4 0 _ _ q0] calNone_ok (by kernel_rfl)
theorem look_pin (j : Nat) {A : PostA} {P : PostV} {c : Nat} (hc : P.other c = true) (h8 : c ≤ 255) :
    OpG Tryz.prog (isLk 121 false) lkXY [.val (.map (some A.mb)), .val (.int .u8 (c : Int))] [((0, j), .fam (pinF A P))] [] (.val (.pointer (some ⟨A.bx c, 0, none⟩))) [] := by
  intro o ho
  obtain ⟨a, b, ho, hxy⟩ := isLk_of ho
  rw [hxy]
  refine ⟨fun q hq => by rw [ho]; simpa [Op.operands] using hq, fun ε ρ R w hxx hM => ?_⟩
  simp only [List.map_cons, List.map_nil, SV.dens, SV.den, List.cons.injEq, and_true] at hxx
  obtain ⟨h1, h2⟩ := hxx
  have hM : Mem (pinC A P (ε 0 j).1 :: R) w := hM
  obtain ⟨base, hI⟩ := hM.of 0 rfl (φ := ∃ base, PostIn w base A P) fun S hS => ⟨hS.2.1.choose, hS.2.1.choose_spec.2⟩
  have hrun := hI.mapLook c h8
  rw [if_pos hc] at hrun
  have hE : (execOp ρ o).run Tryz.prog w = .ok (.value (.pointer (some ⟨A.bx c, 0, none⟩))) w := by
    unfold execOp; rw [ho]
    simp only [h1, h2]
    simp [hrun, go_sem]
  exact res_ok hE ⟨ε 1, by rw [eset_self]; rfl, by rw [eset_self]; exact hM⟩
theorem pin_map {A : PostA} {P : PostV} : OpG Tryz.prog (isLoad 121) loadX [.ptr 0 0 2] [((0, 0), .fam (pinF A P))] [] (.val (.map (some A.mb))) [] := by
  intro o ho
  unfold isLoad at ho
  split at ho <;> try (cases ho; done)
  rename_i t' x hop
  have e1 := Nat.eq_of_beq_eq_true ho
  subst e1
  have hx' : loadX o = [x] := by unfold loadX; rw [hop]
  rw [hx']
  refine ⟨fun z hz => by rw [hop]; simp [Op.operands]; simpa using hz, fun ε ρ R w hx hM => ?_⟩
  simp only [List.map_cons, List.map_nil, SV.dens, SV.den, List.cons.injEq, and_true] at hx
  have hM : Mem (pinC A P (ε 0 0).1 :: R) w := hM
  obtain ⟨e, base, hB⟩ := hM.of 0 rfl (φ := A.pb = (ε 0 0).1 ∧ ∃ base, PostIn w base A P) fun S hS => ⟨hS.1, hS.2.1.choose, hS.2.1.choose_spec.2⟩
  have := partAt_load (P := Tryz.prog) (w := w) (ρ := ρ) (o := o) (x := x) (B := (ε 0 0).1) (O := 0) (ε := ε) (t := 121) (j := 2) (cs := [.val (.int .u8 P.self), .val (.int .i64 P.n), .val (.map (some A.mb))]) (v := .val (.map (some A.mb))) (by kernel_rfl) (fun i u hi => by
    rw [Nat.zero_add, ← e]
    refine hB.head.cell i ?_
    rcases i with _ | _ | _ | i
    · cases hi; rfl
    · cases hi; rfl
    · cases hi; rfl
    · cases hi) hop (hx.trans (by simp))
  exact res_ok this ⟨ε 1, by rw [eset_self], by rw [eset_self]; exact hM⟩
def saSl : Slots := [(0, .ptr 0 0 0), (3, .ptr 1 0 0), (4, .ptr 1 1 0), (38, .fn (.func All1F) [] [.ptr 1 2 0])]
def saHp (A B : PostA) (P : PostV) : Heap := [((0, 0), .fam (pinF A P)), ((0, 1), .fam (pinF B P)), ((1, 0), .box none [.ptr 0 1 0]), ((1, 1), .box none [.val (.bool false)]), ((1, 2), .box none [.ptr 0 0 0])]
def saS1 (A : PostA) {P : PostV} (x : Car P) : Slots := [(5, .val (.int .u8 (x.1 : Int))), (6, .val (.pointer (some ⟨A.bx x.1, 0, none⟩)))] ++ saSl
theorem psame_p (P : PostV) (ok : PostOk P) : CallOK Tryz.prog PSameF [.ptr 0 0 0, .ptr 0 1 0] [((0, 0), .fam (postF P)), ((0, 1), .fam (postF P))] [] (.val (.bool true)) [] := by
  refine callOK_introM 3 (by kernel_rfl) fun eb R => ?_
  refine go_openM (X := { A : PostA // ∀ c : Nat, P.other c = true → ∃ a cp, A.vs c = .slice a (P.box c).wait.length cp ∧ (a = none → cp = 0) }) (fun x => [((0, 0), .fam (pinF x.1 P)), ((0, 1), .fam (postF P))]) (fun ε w hM => pin_open (v := (ε 0 0).2) hM) (fun _ => by kernel_rfl) ?_
  rintro ⟨A, hA⟩
  refine go_openM (X := { B : PostA // ∀ c : Nat, P.other c = true → ∃ a cp, B.vs c = .slice a (P.box c).wait.length cp ∧ (a = none → cp = 0) }) (fun x => [((0, 0), .fam (pinF A P)), ((0, 1), .fam (pinF x.1 P))]) (fun ε w hM => by
    have h1 : Mem (pinF A P (ε 0 0).1 (ε 0 0).2 :: postF P (ε 0 1).1 (ε 0 1).2 :: R) w := hM
    obtain ⟨x, hx⟩ := pin_open (h1.front 1 rfl)
    exact ⟨x, hx.front 1 rfl⟩) (fun _ => by kernel_rfl) ?_
  rintro ⟨B, eB⟩
  have c1 := all_c (pinF A P)
  have l1 := pin_head (A := A) (P := P) (t := 5) (off := 0) (u := .val (.int .u8 P.self)) (by kernel_rfl)
  have l2 := pin_head (A := A) (P := P) (t := 3) (off := 1) (u := .val (.int .i64 P.n)) (by kernel_rfl)
  have l3 := pin_head (A := B) (P := P) (t := 5) (off := 0) (u := .val (.int .u8 P.self)) (by kernel_rfl)
  have l4 := pin_head (A := B) (P := P) (t := 3) (off := 1) (u := .val (.int .i64 P.n)) (by kernel_rfl)
  have s1 : (!decide (P.self = P.self)) = false := by simp
  have s2 : (!decide (P.n = P.n)) = false := by simp
  refine leaf_cutM (rfK Tryz.prog PSameF) saSl (saHp A B P) calNone 400 [hG 3 3 l1, hG 3 7 l3, hB 3 8 _ _ s1, hG 3 13 l2, hG 3 17 l4, hB 3 18 _ _ s2, hC 5 1 c1] calNone_ok (by kernel_rfl) ?_
  refine go_range (n := 3) (gf := All1F) (bs := [.ptr 1 2 0]) (by kernel_rfl) (enters_of Tryz.func118 (by kernel_rfl) rfl) (fun x : Car P => carS A x) (carK P P.n.toNat) (fun ε W => (∃ base, PostIn W base A P) ∧ W.cell? ⟨(ε 1 2).1, 0, none⟩ = some (.pointer (some ⟨A.pb, 0, none⟩)))
    (fun ε => all1_J 2 A P ok (ε 1 2).1) (fun x => by kernel_rfl) (fun x => by kernel_rfl) (of_decide_eq_true (by kernel_rfl)) (of_decide_eq_true (by kernel_rfl)) (fun pre => saHp A B P) (fun _ => [((0, 0), .fam fun _ _ => pureC False)]) ?_ (fun pre => by kernel_rfl) (fun pre => by kernel_rfl) (fun _ => by kernel_rfl) (fun _ => by kernel_rfl) (by kernel_rfl) (fun x => saS1 A x) ?_ ?_ ?_ ?_
  · intro ε pre X W hM
    have h1 : Mem (hden ε (saHp A B P) ++ (X ++ R)) W := mem_perm (by
      rw [← List.append_assoc, ← List.append_assoc]
      exact List.Perm.append_right R List.perm_append_comm) hM
    have h2 : Mem (pinC A P (ε 0 0).1 :: pinC B P (ε 0 1).1 :: boxE none (ε 1 0).1 #[.pointer (some ⟨(ε 0 1).1, 0, none⟩)] :: boxE none (ε 1 1).1 #[.bool false] :: boxE none (ε 1 2).1 #[.pointer (some ⟨(ε 0 0).1, 0, none⟩)] :: (X ++ R)) W := h1
    obtain ⟨e, base, hI⟩ := h2.of 0 rfl (φ := A.pb = (ε 0 0).1 ∧ ∃ base, PostIn W base A P) fun S hS => ⟨hS.1, hS.2.1.choose, hS.2.1.choose_spec.2⟩
    refine ⟨⟨base, hI⟩, ?_⟩
    rw [e]
    exact (h2.box 4 rfl).cell 0 rfl
  · intro ε l pre x X hpre
    exact as_run (saS1 A x) (saHp A B P) 40 [] calNone_ok (by kernel_rfl) fun a w ha hm => ⟨rfl, ha, hm⟩
  · intro ε l pre x X hpre
    obtain ⟨c, hc⟩ := x
    obtain ⟨wa, wc, hv, hn⟩ := hA c hc
    obtain ⟨wa2, wc2, hv2, hn2⟩ := eB c hc
    have hc8 : c ≤ 255 := by have := car_lt ok hc; omega
    have hw := (ok.box c).len
    have c3 := eqM_w (pinF A P) (pinF B P) (cp := wc) (cp' := wc2) (pin_row hc hv) (pin_row hc hv2) (by omega)
    have g1 := look_pin 1 (A := B) hc hc8
    have g2 := pin_map (A := B) (P := P)
    have t1 := load_openG (P := Tryz.prog) (t := 117) (k := 0) (j := 0) (cs := [.val (.slice wa (P.box c).wait.length wc), .val (.int .u64 (P.box c).given), .val (.int .u64 (P.box c).last)]) (u := .val (.slice wa (P.box c).wait.length wc)) 0 (by kernel_rfl) (pin_box (P := P) hc) (fun ε i v hi => by
      rw [hv, Nat.zero_add]
      rcases i with _ | _ | _ | i <;> cases hi <;> rfl) (by show 0 < 3; omega)
    have t2 := load_openG (P := Tryz.prog) (t := 33) (k := 0) (j := 0) (cs := [.val (.slice wa (P.box c).wait.length wc), .val (.int .u64 (P.box c).given), .val (.int .u64 (P.box c).last)]) (u := .val (.int .u64 (P.box c).given)) 1 (by kernel_rfl) (pin_box (P := P) hc) (fun ε i v hi => by
      rw [hv, Nat.zero_add]
      rcases i with _ | _ | _ | i <;> cases hi <;> rfl) (by show 0 < 3; omega)
    have t3 := load_openG (P := Tryz.prog) (t := 33) (k := 0) (j := 0) (cs := [.val (.slice wa (P.box c).wait.length wc), .val (.int .u64 (P.box c).given), .val (.int .u64 (P.box c).last)]) (u := .val (.int .u64 (P.box c).last)) 2 (by kernel_rfl) (pin_box (P := P) hc) (fun ε i v hi => by
      rw [hv, Nat.zero_add]
      rcases i with _ | _ | _ | i <;> cases hi <;> rfl) (by show 0 < 3; omega)
    have u1 := load_openG (P := Tryz.prog) (t := 117) (k := 0) (j := 1) (cs := [.val (.slice wa2 (P.box c).wait.length wc2), .val (.int .u64 (P.box c).given), .val (.int .u64 (P.box c).last)]) (u := .val (.slice wa2 (P.box c).wait.length wc2)) 0 (by kernel_rfl) (pin_box (P := P) (A := B) hc) (fun ε i v hi => by
      rw [hv2, Nat.zero_add]
      rcases i with _ | _ | _ | i <;> cases hi <;> rfl) (by show 0 < 3; omega)
    have u2 := load_openG (P := Tryz.prog) (t := 33) (k := 0) (j := 1) (cs := [.val (.slice wa2 (P.box c).wait.length wc2), .val (.int .u64 (P.box c).given), .val (.int .u64 (P.box c).last)]) (u := .val (.int .u64 (P.box c).given)) 1 (by kernel_rfl) (pin_box (P := P) (A := B) hc) (fun ε i v hi => by
      rw [hv2, Nat.zero_add]
      rcases i with _ | _ | _ | i <;> cases hi <;> rfl) (by show 0 < 3; omega)
    have u3 := load_openG (P := Tryz.prog) (t := 33) (k := 0) (j := 1) (cs := [.val (.slice wa2 (P.box c).wait.length wc2), .val (.int .u64 (P.box c).given), .val (.int .u64 (P.box c).last)]) (u := .val (.int .u64 (P.box c).last)) 2 (by kernel_rfl) (pin_box (P := P) (A := B) hc) (fun ε i v hi => by
      rw [hv2, Nat.zero_add]
      rcases i with _ | _ | _ | i <;> cases hi <;> rfl) (by show 0 < 3; omega)
    have e1 : (!decide ((P.box c).given = (P.box c).given)) = false := by simp
    have e2 : (!decide ((P.box c).last = (P.box c).last)) = false := by simp
    show JdR Tryz.prog (some l) (3 - 1 - 1) [] _ 2 ε (X ++ R) (rfPost X (hden ε (saHp A B P) ++ R) _) .nrm _ _
    refine id_run (saHp A B P) .nrm 60 [hG 8 3 g2, hG 8 5 g1, hG 9 3 t1, hG 9 7 u1, hC 9 8 c3, hG 9 14 t2, hG 9 18 u2, hB 9 19 _ _ e1, hG 9 25 t3, hG 9 29 u3, hB 9 30 _ _ e2] calNone_ok (by kernel_rfl) fun a w hd hm => ?_
    exact mem_perm (by
      rw [← List.append_assoc, ← List.append_assoc]
      exact List.Perm.append_right R List.perm_append_comm) hm
  · intro ε D h0
    refine jd_open [((0, 0), .fam (postF P)), ((0, 1), .fam (postF P)), ((1, 1), .box none [.val (.bool false)])] (fun ε w hM => ?_) (by kernel_rfl) (by kernel_rfl) ?_
    · have h1 : Mem (pinF A P (ε 0 0).1 (ε 0 0).2 :: pinF B P (ε 0 1).1 (ε 0 1).2 :: boxE none (ε 1 0).1 #[.pointer (some ⟨(ε 0 1).1, 0, none⟩)] :: boxE none (ε 1 1).1 #[.bool false] :: boxE none (ε 1 2).1 #[.pointer (some ⟨(ε 0 0).1, 0, none⟩)] :: (objC D (.deferred (some [])) :: R)) w := hM
      have h2 := pin_shut ((pin_shut h1).front 1 rfl)
      have h3 : Mem (boxE none (ε 1 2).1 #[.pointer (some ⟨(ε 0 0).1, 0, none⟩)] :: boxE none (ε 1 0).1 #[.pointer (some ⟨(ε 0 1).1, 0, none⟩)] :: postF P (ε 0 0).1 (ε 0 0).2 :: postF P (ε 0 1).1 (ε 0 1).2 :: boxE none (ε 1 1).1 #[.bool false] :: (objC D (.deferred (some [])) :: R)) w := (((h2.front 1 rfl).front 2 rfl)).front 4 rfl
      exact h3.tail.tail
    · exact leaf_endM h0 calNone 60 [] calNone_ok (by kernel_rfl)
  · intro ε D c h0 ε' a w hd hr
    have h1 : Mem (pureC False :: (objC D (.deferred (some [])) :: R)) w := hr.mem
    exact (h1.of 0 rfl (φ := False) fun S hS => hS).elim
end Go.Proofs.YtifapcpcemigdaaGreat
end
section
namespace Go.Proofs.YtifapcpcemigdaaGreat
open Go.RowKit Go.Lib Go.Tk Go.Shelf Go.Vc Go.Sx
structure Nd (B : BookV) : Prop where
  o : (B.owns.map (·.1)).Nodup
  h : (B.helds.map (·.1)).Nodup
theorem osame_w {O : OffV} {n : Nat} (h : OI O n) (nd : Nd O.b) : CallOK Tryz.prog OffSameF [.ptr 0 0 0, .ptr 0 20 0] [] (offH O ++ offA 0 20 O) (.val (.bool true)) (offH O ++ offA 0 20 O) := by
  have c1 := same_c O.b O.b h.bk.bi.ex.ds h.bk.bi.ex.ds
  rw [sameB_self h.bk.bi.ex.bk.nodup nd.o nd.h] at c1
  have c2 := psame_p O.p h.po.ok
  exact callOK_run 400 [hC 3 8 c1, hC 3 18 c2] (by kernel_rfl) (by kernel_rfl)
end Go.Proofs.YtifapcpcemigdaaGreat
end
section
namespace Go.Proofs.YtifapcpcemigdaaGreat
open Go.RowKit Go.Lib Go.Tk Go.Shelf Go.Vc Go.Sx
def PureF : Nat := 6
theorem statusL_len (B : BookV) (t : Tid) : (statusL B t).length ≤ 4 := by
  show ((coupL B t).map (·.k.s)).length ≤ 4
  rw [List.length_map]
  rcases coupL_cases B t with ⟨e, -⟩ | ⟨a, e, -⟩ | ⟨a, b, e, -⟩ | ⟨a, b, c, e, -⟩ | ⟨a, b, c, x, e, -⟩ <;> rw [e] <;> simp
theorem doX_st (B : BookV) (x : Act17) : (doX B x).st.length ≤ 4 := by
  have q := doX_end B x
  generalize doX B x = r at q ⊢
  cases q with
  | fail e h => exact Nat.zero_le _
  | look d hd h ht => exact statusL_len _ _
  | made h hm => exact statusL_len _ _
  | turn d d' s a hd ht ht' hl h ha => exact statusL_len _ _
  | exch d hd ht h hg hm => exact statusL_len _ _
theorem try_st (O : OffV) (r : RecO) : (tryQ O r).st.length ≤ 4 := by
  unfold tryQ
  split
  · unfold cmdQ
    split
    · exact Nat.zero_le _
    split
    · show (ticQ O.b r.cmd).st.length ≤ 4
      rw [ticQ_eq]; exact doX_st _ _
    · unfold cmdCQ
      cases decide ((coupQ O.b r.cmd).e = 0) <;> exact Nat.zero_le _
  split
  · exact Nat.zero_le _
  split <;> exact Nat.zero_le _
theorem disp_o (O : OffV) {r : RecO} (h1 : r.kind = 1) (h2 : r.cmd.kind = 2) : (tryQ O r).o = O := by
  unfold tryQ cmdQ ticQ
  rw [if_pos h1, if_neg (by omega), if_pos (by omega), if_neg (by omega), if_pos h2]
  unfold exDisplay
  cases lkD O.b.docs r.cmd.t <;> rfl
def stD (l : List Int) : SC := .row 44 1 l.length (.deep (l.map fun s => .val (.int .u8 s))) []
theorem nd_of {B : BookV} {b : Nat} {v : Value} {R : List Chunk} {w : World} (h : Mem (bookF B b v :: R) w) : Nd B := ⟨(book_facts h).1, (book_facts h).2⟩
def puSl (a : Option Addr) (n cap i : Nat) : Slots := [(2, .val (.slice a n cap)), (7, .ptr 1 0 0), (9, .val (.int .i64 (i : Int)))]
def puH (F : CF) (O : OffV) : Heap := [((0, 9), .fam F)] ++ offA 1 0 O
def puSl2 (p q : SV) (e : Int) : Slots := [(10, p), (11, .ptr 1 30 0), (12, eN e), (13, q), (14, .ptr 1 31 0), (15, eN e)]
theorem pure_no (F : CF) {a : Option Addr} {n cap i : Nat} (hi : i ≤ 1000) {O : OffV} {e : Int} (he : e ≠ 0) {eb : Env} {R : List Chunk} {J : Act → World → Prop}
    (hJ : ∀ ε a' w, Rel (ntOf Tryz.prog PureF) 1 eb R ⟨puSl a n cap (i + 1), puH F O, 2⟩ ε a' w → J a' w) :
    Go Tryz.prog PureF (.val (.bool true)) ([((0, 9), .fam F)] ++ []) eb R .nrm (rgK Tryz.prog PureF 11 [J]) (puSl a n cap i ++ puSl2 nilPO nilPO e) (puH F O ++ [((1, 30), .box none (repS e tid0 0 nilS)), ((1, 31), .box none (repS e tid0 0 nilS))]) := by
  have z1 : (!decide (e = e)) = false := by simp
  have z2 : (!decide (e = 0)) = true := by simpa using he
  have z9 : IntKind.i64.wrap ((i : Int) + 1) = ((i + 1 : Nat) : Int) := by rw [wr_i64 (by omega)]; omega
  exact leaf_round (lpK Tryz.prog PureF 0 []) true 400 [hB 11 2 _ _ z1, hB 11 15 _ _ z1, hB 19 1 _ _ z2, hI 8 1 IntKind.i64 _ _ z9] hJ (by kernel_rfl)
def puH2 (F : CF) (O Q : OffV) (t : Tid) (amt : Int) (s1 s2 : SC) : Heap := [((0, 9), .fam F), ((1, 0), .box none [.ptr 1 1 0, .ptr 1 2 0]), ((1, 1), .fam (bookF O.b)), ((1, 2), .fam (postF O.p)), ((1, 10), .box none [.ptr 1 11 0, .ptr 1 12 0]), ((1, 11), .fam (bookF Q.b)), ((1, 12), .fam (postF Q.p)), ((1, 20), .box none [.ptr 1 21 0, .ptr 1 22 0]), ((1, 21), .fam (bookF Q.b)), ((1, 22), .fam (postF Q.p)), ((1, 13), s1), ((1, 23), s2), ((1, 30), .box none (repS 0 t amt (.raw 1 13))), ((1, 31), .box none (repS 0 t amt (.raw 1 23)))]
def puH3 (F : CF) (O Q : OffV) : Heap := [((0, 9), .fam F), ((1, 0), .box none [.ptr 1 1 0, .ptr 1 2 0]), ((1, 1), .fam (bookF O.b)), ((1, 2), .fam (postF O.p)), ((1, 10), .box none [.ptr 1 11 0, .ptr 1 12 0]), ((1, 11), .fam (bookF Q.b)), ((1, 12), .fam (postF Q.p)), ((1, 20), .box none [.ptr 1 21 0, .ptr 1 22 0]), ((1, 21), .fam (bookF Q.b)), ((1, 22), .fam (postF Q.p))]
def puSl3 (a : Option Addr) (n cap i : Nat) : Slots := puSl a n cap i ++ [(10, .ptr 1 10 0), (12, eN 0), (13, .ptr 1 20 0)]
theorem pure_19 (F : CF) {a : Option Addr} {cap i : Nat} {l : List OrX} (hR : ∀ b v, Rd (F b v) a (cellsL orC l)) (hi : i < l.length) (hl : l.length ≤ 1000) {x : OrX} (hx : l.getD i orZ = x) {O Q : OffV} {m : Nat} (eQ : OI Q m) (hd : x.c.kind = 1 → x.c.cmd.kind = 2 → Q = O)
    {eb : Env} {R : List Chunk} {J : Act → World → Prop} (hJ : ∀ ε a' w, Rel (ntOf Tryz.prog PureF) 1 eb R ⟨puSl a l.length cap (i + 1), puH F Q, 2⟩ ε a' w → J a' w) :
    Go Tryz.prog PureF (.val (.bool true)) ([((0, 9), .fam F)] ++ []) eb R .nrm (rgK Tryz.prog PureF 19 [J]) (puSl3 a l.length cap i) (puH3 F O Q) := by
  refine go_open (X := { u : Unit // Nd Q.b }) (fun _ => puH3 F O Q) (fun ε w hM => by
    have h2 := Mem.front (c := bookF Q.b (ε 1 11).1 (ε 1 11).2) hM 5 rfl
    exact ⟨⟨(), nd_of h2⟩, hM⟩) (fun _ => by kernel_rfl) ?_
  rintro ⟨-, nd2⟩
  have q1 := idx_openG (P := Tryz.prog) (t := OrT) (e := 50) (size := 25) (j := 9) (k := .i64) (cap := cap) (n := l.length) Tryz.underlying22 (by kernel_rfl) (or_len l) hR hi
  have hpos : 0 < (cellsL orC l).length := by rw [or_len]; omega
  have q2 := load_openG0 (P := Tryz.prog) (t := 5) (k := i * 25) (j := 9) (u := .val (.int .u8 (l.getD i orZ).c.kind)) (by kernel_rfl) hR (or_nth hi) hpos
  have q3 := load_openG (P := Tryz.prog) (t := 5) (k := i * 25) (j := 9) (u := .val (.int .u8 (l.getD i orZ).c.cmd.kind)) 1 (by kernel_rfl) hR (or_nth hi) hpos
  rw [hx] at q2 q3
  have z9 : IntKind.i64.wrap ((i : Int) + 1) = ((i + 1 : Nat) : Int) := by rw [wr_i64 (by omega)]; omega
  have c1 := osame_w eQ nd2
  rcases Bool.eq_false_or_eq_true (decide (x.c.kind = 1)) with e1 | e1
  · rcases Bool.eq_false_or_eq_true (decide (x.c.cmd.kind = 2)) with e2 | e2
    · have e3 := hd (of_decide_eq_true e1) (of_decide_eq_true e2)
      subst e3
      exact leaf_round (lpK Tryz.prog PureF 0 []) true 400 [hC 20 2 c1, hG 20 7 q1, hG 20 9 q2, hB 20 10 _ _ e1, hG 20 14 q1, hG 20 17 q3, hB 20 18 _ _ e2, hC 20 23 c1, hI 8 1 IntKind.i64 _ _ z9] hJ (by kernel_rfl)
    · exact leaf_round (lpK Tryz.prog PureF 0 []) true 400 [hC 20 2 c1, hG 20 7 q1, hG 20 9 q2, hB 20 10 _ _ e1, hG 20 14 q1, hG 20 17 q3, hB 20 18 _ _ e2, hI 8 1 IntKind.i64 _ _ z9] hJ (by kernel_rfl)
  · exact leaf_round (lpK Tryz.prog PureF 0 []) true 400 [hC 20 2 c1, hG 20 7 q1, hG 20 9 q2, hB 20 10 _ _ e1, hI 8 1 IntKind.i64 _ _ z9] hJ (by kernel_rfl)
theorem pure_ok (F : CF) {a : Option Addr} {n cap i : Nat} {O Q : OffV} {t : Tid} {amt : Int} {st : List Int} (hst : st.length ≤ 4) {eb : Env} {R : List Chunk} {J : Act → World → Prop}
    (hg : Go Tryz.prog PureF (.val (.bool true)) ([((0, 9), .fam F)] ++ []) eb R .nrm (rgK Tryz.prog PureF 19 [J]) (puSl3 a n cap i) (puH3 F O Q)) :
    Go Tryz.prog PureF (.val (.bool true)) ([((0, 9), .fam F)] ++ []) eb R .nrm (rgK Tryz.prog PureF 11 [J]) (puSl a n cap i ++ puSl2 (.ptr 1 10 0) (.ptr 1 20 0) 0) (puH2 F O Q t amt (stC st) (stC st)) := by
  have z1 : (!decide (amt = amt)) = false := by simp
  have z2 : (!(decide (t.c = t.c) && (decide (t.r = t.r) && true))) = false := by simp
  have zz : ∀ s : Int, (!decide (s = s)) = false := fun s => by simp
  rcases st with _ | ⟨s0, _ | ⟨s1, _ | ⟨s2, _ | ⟨s3, _ | ⟨s4, st⟩⟩⟩⟩⟩
  · exact leaf_cut (rgK Tryz.prog PureF 19 [J]) _ _ calNone true 400 [hB 11 22 _ _ z1, hB 11 29 _ _ z2, .stop 19] calNone_ok (by kernel_rfl) hg
  · have y0 := zz s0
    refine go_open (X := Unit) (fun _ => puH2 F O Q t amt (stD [s0]) (stD [s0])) (fun ε w hM => ⟨(), hM⟩) (fun _ => by kernel_rfl) fun _ => ?_
    exact leaf_cut (rgK Tryz.prog PureF 19 [J]) _ _ calNone true 400 [hB 11 22 _ _ z1, hB 11 29 _ _ z2, hB 16 10 _ _ y0, .stop 19] calNone_ok (by kernel_rfl) hg
  · have y0 := zz s0
    have y1 := zz s1
    refine go_open (X := Unit) (fun _ => puH2 F O Q t amt (stD [s0, s1]) (stD [s0, s1])) (fun ε w hM => ⟨(), hM⟩) (fun _ => by kernel_rfl) fun _ => ?_
    exact leaf_cut (rgK Tryz.prog PureF 19 [J]) _ _ calNone true 400 [hB 11 22 _ _ z1, hB 11 29 _ _ z2, hB 16 10 _ _ y0, hB 16 10 _ _ y1, .stop 19] calNone_ok (by kernel_rfl) hg
  · have y0 := zz s0
    have y1 := zz s1
    have y2 := zz s2
    refine go_open (X := Unit) (fun _ => puH2 F O Q t amt (stD [s0, s1, s2]) (stD [s0, s1, s2])) (fun ε w hM => ⟨(), hM⟩) (fun _ => by kernel_rfl) fun _ => ?_
    exact leaf_cut (rgK Tryz.prog PureF 19 [J]) _ _ calNone true 400 [hB 11 22 _ _ z1, hB 11 29 _ _ z2, hB 16 10 _ _ y0, hB 16 10 _ _ y1, hB 16 10 _ _ y2, .stop 19] calNone_ok (by kernel_rfl) hg
  · have y0 := zz s0
    have y1 := zz s1
    have y2 := zz s2
    have y3 := zz s3
    refine go_open (X := Unit) (fun _ => puH2 F O Q t amt (stD [s0, s1, s2, s3]) (stD [s0, s1, s2, s3])) (fun ε w hM => ⟨(), hM⟩) (fun _ => by kernel_rfl) fun _ => ?_
    exact leaf_cut (rgK Tryz.prog PureF 19 [J]) _ _ calNone true 400 [hB 11 22 _ _ z1, hB 11 29 _ _ z2, hB 16 10 _ _ y0, hB 16 10 _ _ y1, hB 16 10 _ _ y2, hB 16 10 _ _ y3, .stop 19] calNone_ok (by kernel_rfl) hg
  · simp at hst
end Go.Proofs.YtifapcpcemigdaaGreat
end
section
namespace Go.Proofs.YtifapcpcemigdaaGreat
open Go.RowKit Go.Lib Go.Tk Go.Shelf Go.Vc Go.Sx
theorem step_yes {O : OffV} {r : RecO} (h : (tryQ O r).e = 0) : stepO O r = (tryQ O r).o := by unfold stepO; rw [decide_eq_true h]; rfl
theorem step_no {O : OffV} {r : RecO} (h : (tryQ O r).e ≠ 0) : stepO O r = O := by unfold stepO; rw [decide_eq_false h]; rfl
theorem pure_act (F : CF) {a : Option Addr} {cap i : Nat} {l : List OrX} (hR : ∀ b v, Rd (F b v) a (cellsL orC l)) (hi : i < l.length) (hl : l.length ≤ 1000) {x : OrX} (hx : l.getD i orZ = x) {O : OffV} {m : Nat} (eO : OI O m) (hm : m < 1000) (hr : OrRd F x)
    {eb : Env} {R : List Chunk} {J : Act → World → Prop} (hJ : ∀ ε a' w, Rel (ntOf Tryz.prog PureF) 1 eb R ⟨puSl a l.length cap (i + 1), puH F (stepO O x.c), 2⟩ ε a' w → J a' w) :
    Go Tryz.prog PureF (.val (.bool true)) ([((0, 9), .fam F)] ++ []) eb R .nrm (rgK Tryz.prog PureF 9 [J]) (puSl a l.length cap i) (puH F O) := by
  have q1 := idx_openG (P := Tryz.prog) (t := OrT) (e := 50) (size := 25) (j := 9) (k := .i64) (cap := cap) (n := l.length) Tryz.underlying22 (by kernel_rfl) (or_len l) hR hi
  have hpos : 0 < (cellsL orC l).length := by rw [or_len]; omega
  have q2 := load_openG0 (P := Tryz.prog) (t := 50) (k := i * 25) (j := 9) (u := .agg (orX (l.getD i orZ))) (by kernel_rfl) hR (or_nth hi) hpos
  rw [hx] at q2
  have c1 := try_x eO (by omega) hr
  have hst := try_st O x.c
  have hdd := fun h1 h2 => disp_o O (r := x.c) h1 h2
  have hoi := try_oi eO (by omega) hr.g
  by_cases he : (tryQ O x.c).e = 0
  · rw [(try_e (O := O) he).1, (try_e (O := O) he).2] at c1
    rw [step_yes he] at hJ
    have fin := pure_ok F (a := a) (n := l.length) (cap := cap) (i := i) (O := O) (Q := (tryQ O x.c).o) (t := (tryQ O x.c).t) (amt := (tryQ O x.c).amt) hst (pure_19 F hR hi hl hx hoi hdd hJ)
    clear hJ hdd hoi hst
    generalize tryQ O x.c = q at c1 fin
    exact leaf_cut (rgK Tryz.prog PureF 11 [J]) _ _ calNone false 400 [hG 9 3 q1, hG 9 4 q2, hC 9 5 c1, hG 10 3 q1, hG 10 4 q2, hC 10 5 c1, .stop 11] calNone_ok (by kernel_rfl) fin
  · rw [(try_n (O := O) he).1, (try_n (O := O) he).2] at c1
    rw [step_no he] at hJ
    have fin := pure_no F (a := a) (n := l.length) (cap := cap) (i := i) (by omega) he hJ
    clear hJ hdd hoi hst
    generalize (tryQ O x.c).e = e at c1 fin
    exact leaf_cut (rgK Tryz.prog PureF 11 [J]) _ _ calNone false 400 [hG 9 3 q1, hG 9 4 q2, hC 9 5 c1, hG 10 3 q1, hG 10 4 q2, hC 10 5 c1, .stop 11] calNone_ok (by kernel_rfl) fin
theorem pure_law (F : CF) {self n : Int} (hs : 0 ≤ self ∧ self ≤ 255) {a : Option Addr} {cap : Nat} {l : List OrX} (hR : ∀ b v, Rd (F b v) a (cellsL orC l)) (hA : greatB20 l = false → ∀ x ∈ l, OrRd F x) :
    CallOK Tryz.prog PureF [.val (.int .u8 self), .val (.int .i64 n), .val (.slice a l.length cap)] [((0, 9), .fam F)] [] (.val (.bool true)) [] := by
  have c0 := great20_w F (cap := cap) hR
  have c9 := wakes20_w
  rcases Bool.eq_false_or_eq_true (greatB20 l) with g | g <;> rw [g] at c0
  · exact callOK_run 400 [hC 1 1 c0, hC 2 0 c9] (by kernel_rfl) (by kernel_rfl)
  have hA := hA g
  have hlen := (greatB20_no g).1
  by_cases he : bookE self n = 0
  case neg =>
    have c1 := offNew_no (self := self) (n := n) hs he
    exact callOK_run 400 [hC 1 1 c0, hC 3 2 c1, hC 5 0 c9] (by kernel_rfl) (by kernel_rfl)
  have c1 := offNew_ok (self := self) (n := n) hs he
  have eO := runO_oi (new_oi hs he) hA
  generalize offNew self n = O0 at *
  refine callOK_intro (by kernel_rfl) fun eb R => ?_
  refine go_loop (X := { i : Nat // i ≤ l.length }) 0 [] (fun x => (puSl a l.length cap x.1, puH F (runO O0 l x.1))) (fun x => l.length - x.1) ⟨0, Nat.zero_le _⟩ calNone false 400 [hC 1 1 c0, hC 3 2 c1] calNone_ok (by kernel_rfl) ?_
  rintro ⟨i, hi⟩ J hJ
  by_cases h : i < l.length
  · have z0 : decide ((i : Int) < (l.length : Int)) = true := decide_eq_true (by omega)
    have hin : l.getD i orZ ∈ l := List.mem_of_getElem? (getD_some h orZ)
    have fin := pure_act F (cap := cap) hR h (by omega) rfl (eO i (by omega) (by omega)) (by omega) (hA _ hin) (eb := eb) (R := R) (J := J) (hJ ⟨i + 1, h⟩ (by show _ - (i + 1) < _ - i; omega))
    clear hJ c0 c1 hA eO
    exact leaf_cut (rgK Tryz.prog PureF 9 [J]) _ _ calNone false 400 [hB 7 3 _ _ z0, .stop 9] calNone_ok (by kernel_rfl) fin
  · have z0 : decide ((l.length : Int) < (l.length : Int)) = false := decide_eq_false (by omega)
    have e : i = l.length := by omega
    subst e
    clear hJ c0 c1 hA eO
    exact leaf_end calNone false 400 [hB 7 3 _ _ z0, hC 23 0 c9] calNone_ok (by kernel_rfl)
theorem pure_any (self n : Int) (a : Option Addr) (l : List OrX) (c : Nat) (w : World) (ws : (Lit.int .u8 self).wf = true) (_ : (Lit.int .i64 n).wf = true) (hr : Row w a (cellsL orC l)) (_ : a = none → c = 0) (_ : l.length ≤ maxLen) (ok : ∀ x ∈ l, OrIn w x) :
    Calls Tryz.prog PureF #[.int .u8 self, .int .i64 n, .slice a l.length c] w fun e w' => e = .returned (.bool true) ∧ Below w.heap.size w w' :=
  (pure_law (fun _ _ => oldC w) (wfu8 ws) (fun _ _ => rd_old hr) (fun g x hx => orRd_of (ok x hx) (by have := (greatB20_no g).2 x hx; omega) (by have := (greatB20_no g).2 x hx; omega)) (fun _ _ => (0, undef)) [] w (Mem.old w)).mono fun e w' ⟨x, h, hm⟩ => ⟨h, (show Mem (oldC w :: []) w' from hm).below 0 rfl⟩
end Go.Proofs.YtifapcpcemigdaaGreat
end
section
namespace Go.Proofs.YtifapcpcemigdaaGreat
open Go.RowKit Go.Lib Go.Tk Go.Shelf Go.Vc Go.Sx
def repT (O : OffV) (l : List OrX) : Nat → List OrX × List Int
  | 0 => ([], [])
  | i + 1 => bif decide ((tryQ (runO O l i) (l.getD i orZ).c).e = 0) then ((repT O l i).1 ++ [l.getD i orZ], (repT O l i).2 ++ [(tryQ (runO O l i) (l.getD i orZ).c).amt]) else repT O l i
theorem getD_app {α : Type} (T : List α) (x d : α) {j : Nat} (h : j < T.length) : (T ++ [x]).getD j d = T.getD j d := by
  rw [List.getD_eq_getElem?_getD, List.getD_eq_getElem?_getD, List.getElem?_append_left h]
theorem getD_end {α : Type} (T : List α) (x d : α) : (T ++ [x]).getD T.length d = x := by
  rw [List.getD_eq_getElem?_getD, List.getElem?_append_right (Nat.le_refl _)]; simp
theorem runO_app (O : OffV) (T : List OrX) (x : OrX) : ∀ j, j ≤ T.length → runO O (T ++ [x]) j = runO O T j
  | 0, _ => rfl
  | j + 1, h => by
    show stepO (runO O (T ++ [x]) j) ((T ++ [x]).getD j orZ).c = stepO (runO O T j) (T.getD j orZ).c
    rw [runO_app O T x j (by omega), getD_app T x orZ (by omega)]
structure RepI (O : OffV) (l : List OrX) (i : Nat) (T : List OrX) (A : List Int) : Prop where
  len : A.length = T.length
  le : T.length ≤ i
  mem : ∀ x ∈ T, x ∈ l
  run : ∀ j, j < T.length → (tryQ (runO O T j) (T.getD j orZ).c).e = 0 ∧ (tryQ (runO O T j) (T.getD j orZ).c).amt = A.getD j 0
  fin : runO O T T.length = runO O l i
theorem rep_i (O : OffV) (l : List OrX) : ∀ i, i ≤ l.length → RepI O l i (repT O l i).1 (repT O l i).2
  | 0, _ => ⟨rfl, Nat.le_refl _, fun x hx => (by cases hx), fun j hj => absurd hj (Nat.not_lt_zero _), rfl⟩
  | i + 1, h => by
    have ih := rep_i O l i (by omega)
    have hx : l.getD i orZ ∈ l := List.mem_of_getElem? (getD_some (by omega) orZ)
    unfold repT
    rcases Bool.eq_false_or_eq_true (decide ((tryQ (runO O l i) (l.getD i orZ).c).e = 0)) with e | e <;> rw [e]
    · show RepI O l (i + 1) ((repT O l i).1 ++ [l.getD i orZ]) ((repT O l i).2 ++ [(tryQ (runO O l i) (l.getD i orZ).c).amt])
      have e0 := of_decide_eq_true e
      generalize repT O l i = q at ih
      obtain ⟨T, A⟩ := q
      obtain ⟨h1, h2, h3, h4, h5⟩ := ih
      dsimp only at *
      refine ⟨by simp [h1], by simp; omega, fun x hm => ?_, fun j hj => ?_, ?_⟩
      · rcases List.mem_append.1 hm with hm | hm
        · exact h3 x hm
        · rw [List.mem_singleton.1 hm]; exact hx
      · rw [List.length_append, List.length_singleton] at hj
        rw [runO_app O T _ j (by omega)]
        by_cases q : j < T.length
        · rw [getD_app T _ orZ q, getD_app A _ 0 (by omega)]; exact h4 j q
        · have : j = T.length := by omega
          subst this
          have e2 : (A ++ [(tryQ (runO O l i) (l.getD i orZ).c).amt]).getD T.length 0 = (tryQ (runO O l i) (l.getD i orZ).c).amt := by rw [← h1]; exact getD_end A _ 0
          rw [e2, getD_end T _ orZ, h5]; exact ⟨e0, rfl⟩
      · rw [List.length_append, List.length_singleton]
        show stepO (runO O (T ++ [l.getD i orZ]) T.length) ((T ++ [l.getD i orZ]).getD T.length orZ).c = stepO (runO O l i) (l.getD i orZ).c
        rw [runO_app O T _ _ (Nat.le_refl _), getD_end T _ orZ, h5]
    · show RepI O l (i + 1) (repT O l i).1 (repT O l i).2
      have e0 := of_decide_eq_false e
      refine ⟨ih.len, by have := ih.le; omega, ih.mem, ih.run, ?_⟩
      rw [ih.fin]
      show _ = stepO (runO O l i) (l.getD i orZ).c
      rw [step_no e0]
theorem cellsL_snoc {α : Type} (enc : α → List Value) (T : List α) (x : α) : cellsL enc (T ++ [x]) = cellsL enc T ++ enc x := by unfold cellsL; simp
def RepF : Nat := 5
def rpSl (self n : Int) (a : Option Addr) (m cap i : Nat) : Slots := [(0, .val (.int .u8 self)), (1, .val (.int .i64 n)), (2, .val (.slice a m cap)), (7, .ptr 1 0 0), (9, .raw 1 40), (10, .raw 1 41), (11, .val (.int .i64 (i : Int)))]
def rpRow (N : Nat) (cs : List Value) (M : Nat) (ms : List Value) : Heap := [((1, 40), .row 50 25 N (.shal cs) []), ((1, 41), .row 2 1 M (.shal ms) [])]
def rpH (F : CF) (O : OffV) (N : Nat) (cs : List Value) (M : Nat) (ms : List Value) : Heap := [((0, 9), .fam F)] ++ offA 1 0 O ++ rpRow N cs M ms
def rpH2 (F : CF) (O : OffV) (N : Nat) (cs : List Value) (M : Nat) (ms : List Value) : Heap := [((0, 9), .fam F), ((1, 0), .box none [.ptr 1 1 0, .ptr 1 2 0]), ((1, 1), .fam (bookF O.b)), ((1, 2), .fam (postF O.p)), ((1, 20), .box none [.ptr 1 21 0, .ptr 1 22 0]), ((1, 21), .fam (bookF O.b)), ((1, 22), .fam (postF O.p))] ++ rpRow N cs M ms
def rpSl2 (p : SV) (e : Int) : Slots := [(12, .ptr 1 20 0), (13, p), (14, .ptr 1 30 0), (15, eN e)]
section
variable (F : CF) {self n : Int} {a : Option Addr} {cap i : Nat} {l : List OrX} (hR : ∀ b v, Rd (F b v) a (cellsL orC l)) (hi : i < l.length) (hl : l.length ≤ 1000) {x : OrX} (hx : l.getD i orZ = x) {O : OffV} {m : Nat} (eO : OI O m) {N M : Nat} {cs ms : List Value} (hN : N + 1 ≤ 1073741824) (hM : M + 1 ≤ 1073741824)
    {eb : Env} {R : List Chunk} {J : Act → World → Prop}
include hR hi hl hx eO hN hM
theorem rep_no {e : Int} (he : e ≠ 0) (hJ : ∀ ε a' w, Rel (ntOf Tryz.prog RepF) 1 eb R ⟨rpSl self n a l.length cap (i + 1), rpH F O N cs M ms, 2⟩ ε a' w → J a' w) :
    Go Tryz.prog RepF (.val (.bool true)) ([((0, 9), .fam F)] ++ []) eb R .nrm (rgK Tryz.prog RepF 13 [J]) (rpSl self n a l.length cap i ++ rpSl2 nilPO e) (rpH2 F O N cs M ms ++ [((1, 30), .box none (repS e tid0 0 nilS))]) := by
  refine go_open (X := { u : Unit // Nd O.b }) (fun _ => rpH2 F O N cs M ms ++ [((1, 30), .box none (repS e tid0 0 nilS))]) (fun ε w hM => by
    have h2 := Mem.front (c := bookF O.b (ε 1 1).1 (ε 1 1).2) hM 2 rfl
    exact ⟨⟨(), nd_of h2⟩, hM⟩) (fun _ => by kernel_rfl) ?_
  rintro ⟨-, nd⟩
  have c1 := osame_w eO nd
  have z0 : decide (e = 0) = false := decide_eq_false he
  have z1 : (!decide (e = 0)) = true := by rw [z0]; rfl
  have z2 : (!decide (e = e)) = false := by simp
  have z9 : IntKind.i64.wrap ((i : Int) + 1) = ((i + 1 : Nat) : Int) := by rw [wr_i64 (by omega)]; omega
  exact leaf_round (lpK Tryz.prog RepF 0 []) false 400 [hC 13 2 c1, hB 13 6 _ _ z0, hB 13 13 _ _ z1, hB 13 18 _ _ z2, hB 15 1 _ _ z0, hI 10 1 IntKind.i64 _ _ z9] hJ (by kernel_rfl)
theorem rep_yes {Q : OffV} {t : Tid} {amt : Int} {st : List Int} (hJ : ∀ ε a' w, Rel (ntOf Tryz.prog RepF) 1 eb R ⟨rpSl self n a l.length cap (i + 1), rpH F Q (N + 1) (cs ++ orC x) (M + 1) (ms ++ [.int .i64 amt]), 2⟩ ε a' w → J a' w) :
    Go Tryz.prog RepF (.val (.bool true)) ([((0, 9), .fam F)] ++ []) eb R .nrm (rgK Tryz.prog RepF 13 [J]) (rpSl self n a l.length cap i ++ rpSl2 (.ptr 1 10 0) 0) (rpH2 F O N cs M ms ++ (offA 1 10 Q ++ [((1, 13), stC st), ((1, 30), .box none (repS 0 t amt (.raw 1 13)))])) := by
  refine go_open (X := { u : Unit // Nd O.b }) (fun _ => rpH2 F O N cs M ms ++ (offA 1 10 Q ++ [((1, 13), stC st), ((1, 30), .box none (repS 0 t amt (.raw 1 13)))])) (fun ε w hM => by
    have h2 := Mem.front (c := bookF O.b (ε 1 1).1 (ε 1 1).2) hM 2 rfl
    exact ⟨⟨(), nd_of h2⟩, hM⟩) (fun _ => by kernel_rfl) ?_
  rintro ⟨-, nd⟩
  have c1 := osame_w eO nd
  have q1 := idx_openG (P := Tryz.prog) (t := OrT) (e := 50) (size := 25) (j := 9) (k := .i64) (cap := cap) (n := l.length) Tryz.underlying22 (by kernel_rfl) (or_len l) hR hi
  have hpos : 0 < (cellsL orC l).length := by rw [or_len]; omega
  have q2 := load_openG0 (P := Tryz.prog) (t := 50) (k := i * 25) (j := 9) (u := .agg (orX (l.getD i orZ))) (by kernel_rfl) hR (or_nth hi) hpos
  rw [hx] at q2
  have z9 : IntKind.i64.wrap ((i : Int) + 1) = ((i + 1 : Nat) : Int) := by rw [wr_i64 (by omega)]; omega
  exact leaf_round (lpK Tryz.prog RepF 0 []) false 400 [hC 13 2 c1, hG 17 3 q1, hG 17 4 q2, .opt 17 6 (.le _ hN), .opt 18 4 (.le _ hM), hI 10 1 IntKind.i64 _ _ z9] hJ (by kernel_rfl)
theorem rep_act (hm : m < 1000) (hr : OrRd F x) (hJ : ∀ ε a' w, Rel (ntOf Tryz.prog RepF) 1 eb R ⟨rpSl self n a l.length cap (i + 1), bif decide ((tryQ O x.c).e = 0) then rpH F (tryQ O x.c).o (N + 1) (cs ++ orC x) (M + 1) (ms ++ [.int .i64 (tryQ O x.c).amt]) else rpH F O N cs M ms, 2⟩ ε a' w → J a' w) :
    Go Tryz.prog RepF (.val (.bool true)) ([((0, 9), .fam F)] ++ []) eb R .nrm (rgK Tryz.prog RepF 11 [J]) (rpSl self n a l.length cap i) (rpH F O N cs M ms) := by
  have q1 := idx_openG (P := Tryz.prog) (t := OrT) (e := 50) (size := 25) (j := 9) (k := .i64) (cap := cap) (n := l.length) Tryz.underlying22 (by kernel_rfl) (or_len l) hR hi
  have hpos : 0 < (cellsL orC l).length := by rw [or_len]; omega
  have q2 := load_openG0 (P := Tryz.prog) (t := 50) (k := i * 25) (j := 9) (u := .agg (orX (l.getD i orZ))) (by kernel_rfl) hR (or_nth hi) hpos
  rw [hx] at q2
  have c0 := offClone_w eO.off
  have c1 := try_x eO (by omega) hr
  by_cases he : (tryQ O x.c).e = 0
  · rw [(try_e (O := O) he).1, (try_e (O := O) he).2] at c1
    rw [decide_eq_true he] at hJ
    have fin := rep_yes F (self := self) (n := n) (cap := cap) hR hi hl hx eO hN hM (Q := (tryQ O x.c).o) (t := (tryQ O x.c).t) (st := (tryQ O x.c).st) hJ
    clear hJ
    generalize tryQ O x.c = q at c1 fin
    exact leaf_cut (rgK Tryz.prog RepF 13 [J]) _ _ calNone false 400 [hC 11 1 c0, hG 12 3 q1, hG 12 4 q2, hC 12 5 c1, .stop 13] calNone_ok (by kernel_rfl) fin
  · rw [(try_n (O := O) he).1, (try_n (O := O) he).2] at c1
    rw [decide_eq_false he] at hJ
    have fin := rep_no F (self := self) (n := n) (cap := cap) hR hi hl hx eO hN hM he hJ
    clear hJ
    generalize (tryQ O x.c).e = e at c1 fin
    exact leaf_cut (rgK Tryz.prog RepF 13 [J]) _ _ calNone false 400 [hC 11 1 c0, hG 12 3 q1, hG 12 4 q2, hC 12 5 c1, .stop 13] calNone_ok (by kernel_rfl) fin
end
end Go.Proofs.YtifapcpcemigdaaGreat
end
section
namespace Go.Proofs.YtifapcpcemigdaaGreat
open Go.RowKit Go.Lib Go.Tk Go.Shelf Go.Vc Go.Sx
def rp2Sl (j : Nat) : Slots := [(7, .ptr 1 0 0), (9, .raw 1 40), (10, .raw 1 41), (16, .ptr 1 50 0), (18, .val (.int .i64 (j : Int)))]
def rp2H (F : CF) (O Q : OffV) (N : Nat) (cs : List Value) (M : Nat) (ms : List Value) : Heap := [((0, 9), .fam F)] ++ offA 1 0 O ++ rpRow N cs M ms ++ offA 1 50 Q
theorem int_nth {A : List Int} {j : Nat} (h : j < A.length) : ∀ (ε : Env) (q : Nat) (v : SV), ([.val (.int .i64 (A.getD j 0))] : List SV)[q]? = some v → (A.map (Value.int .i64))[j * 1 + q]? = some (v.den ε) := fun ε q v hq => by
  cases q with
  | zero =>
    cases hq
    rw [List.getElem?_map, Nat.mul_one, Nat.add_zero, getD_some h 0]; rfl
  | succ q => cases hq
theorem rep2_act (F : CF) {O Q : OffV} {m : Nat} (eQ : OI Q m) (hm : m < 1000) {T : List OrX} {A : List Int} (hA : A.length = T.length) {j : Nat} (hj : j < T.length) (hl : T.length ≤ 1000) (hr : OrRd F (T.getD j orZ)) (he : (tryQ Q (T.getD j orZ).c).e = 0) (ha : (tryQ Q (T.getD j orZ).c).amt = A.getD j 0)
    {eb : Env} {R : List Chunk} {J : Act → World → Prop} (hJ : ∀ ε a' w, Rel (ntOf Tryz.prog RepF) 1 eb R ⟨rp2Sl (j + 1), rp2H F O (stepO Q (T.getD j orZ).c) T.length (cellsL orC T) A.length (A.map (.int .i64)), 2⟩ ε a' w → J a' w) :
    Go Tryz.prog RepF (.val (.bool true)) ([((0, 9), .fam F)] ++ []) eb R .nrm (rgK Tryz.prog RepF 23 [J]) (rp2Sl j) (rp2H F O Q T.length (cellsL orC T) A.length (A.map (.int .i64))) := by
  have q2 := load_eltG (P := Tryz.prog) (t := 50) (cs := orX (T.getD j orZ)) (n := T.length) (p := 0) (j := 0) (b := j * 25) (E := 50) (size := 25) (u := .agg (orX (T.getD j orZ))) (by kernel_rfl) (or_nth hj)
  have q3 := load_eltG (P := Tryz.prog) (t := 2) (cs := [.val (.int .i64 (A.getD j 0))]) (n := A.length) (p := 0) (j := 0) (b := j * 1) (E := 2) (size := 1) (u := .val (.int .i64 (A.getD j 0))) (xs := A.map (.int .i64)) (by kernel_rfl) (int_nth (by omega))
  have hj2 : j < A.length := by omega
  have z9 : IntKind.i64.wrap ((j : Int) + 1) = ((j + 1 : Nat) : Int) := by rw [wr_i64 (by omega)]; omega
  have c1 := try_x eQ (by omega) hr
  rw [(try_e (O := Q) he).1, (try_e (O := Q) he).2, ha] at c1
  rw [step_yes he] at hJ
  have z1 : (!decide (A.getD j 0 = A.getD j 0)) = false := by simp
  generalize (tryQ Q (T.getD j orZ).c).o = Q' at *
  generalize (tryQ Q (T.getD j orZ).c).t = t' at *
  generalize (tryQ Q (T.getD j orZ).c).st = st' at *
  generalize T.getD j orZ = x at *
  generalize A.getD j 0 = am at *
  generalize cellsL orC T = cs at *
  generalize A.map (Value.int .i64) = ms at *
  exact leaf_round (lpK Tryz.prog RepF 1 []) false 400 [.opt 23 3 (.at_ 0 _ _ _ ⟨rfl, hj⟩), hG 23 4 q2, hC 23 5 c1, .opt 24 7 (.at_ 0 _ _ _ ⟨rfl, hj2⟩), hG 24 8 q3, hB 24 9 _ _ z1, hI 22 1 IntKind.i64 _ _ z9] hJ (by kernel_rfl)
theorem rep_end (F : CF) {O : OffV} {m : Nat} (eO : OI O m) {N M j : Nat} {cs ms : List Value} {eb : Env} {R : List Chunk} :
    Go Tryz.prog RepF (.val (.bool true)) ([((0, 9), .fam F)] ++ []) eb R .nrm (rgK Tryz.prog RepF 27 []) (rp2Sl j) (rp2H F O O N cs M ms) := by
  refine go_open (X := { u : Unit // Nd O.b }) (fun _ => rp2H F O O N cs M ms) (fun ε w hM => by
    have h2 := Mem.front (c := bookF O.b (ε 1 1).1 (ε 1 1).2) hM 2 rfl
    exact ⟨⟨(), nd_of h2⟩, hM⟩) (fun _ => by kernel_rfl) ?_
  rintro ⟨-, nd⟩
  have c1 := osame_w eO nd
  have c9 := wakes20_w
  exact leaf_end calNone false 400 [hC 27 2 c1, hC 27 4 c9] calNone_ok (by kernel_rfl)
theorem rep_law (F : CF) {self n : Int} (hs : 0 ≤ self ∧ self ≤ 255) {a : Option Addr} {cap : Nat} {l : List OrX} (hR : ∀ b v, Rd (F b v) a (cellsL orC l)) (hA : greatB20 l = false → ∀ x ∈ l, OrRd F x) :
    CallOK Tryz.prog RepF [.val (.int .u8 self), .val (.int .i64 n), .val (.slice a l.length cap)] [((0, 9), .fam F)] [] (.val (.bool true)) [] := by
  have c0 := great20_w F (cap := cap) hR
  have c9 := wakes20_w
  rcases Bool.eq_false_or_eq_true (greatB20 l) with g | g <;> rw [g] at c0
  · exact callOK_run 400 [hC 1 1 c0, hC 2 0 c9] (by kernel_rfl) (by kernel_rfl)
  have hA := hA g
  have hlen := (greatB20_no g).1
  by_cases he : bookE self n = 0
  case neg =>
    have c1 := offNew_no (self := self) (n := n) hs he
    exact callOK_run 400 [hC 1 1 c0, hC 3 2 c1, hC 5 0 c9] (by kernel_rfl) (by kernel_rfl)
  have c1 := offNew_ok (self := self) (n := n) hs he
  have e0 := new_oi hs he
  have eO := runO_oi e0 hA
  have rI := rep_i (offNew self n) l
  generalize offNew self n = O0 at *
  refine callOK_intro (by kernel_rfl) fun eb R => ?_
  refine go_loop (X := { i : Nat // i ≤ l.length }) 0 [] (fun x => (rpSl self n a l.length cap x.1, rpH F (runO O0 l x.1) (repT O0 l x.1).1.length (cellsL orC (repT O0 l x.1).1) (repT O0 l x.1).2.length ((repT O0 l x.1).2.map (.int .i64)))) (fun x => l.length - x.1) ⟨0, Nat.zero_le _⟩ calNone false 400 [hC 1 1 c0, hC 3 2 c1] calNone_ok (by kernel_rfl) ?_
  rintro ⟨i, hi⟩ J hJ
  by_cases h : i < l.length
  · have z0 : decide ((i : Int) < (l.length : Int)) = true := decide_eq_true (by omega)
    have hin : l.getD i orZ ∈ l := List.mem_of_getElem? (getD_some h orZ)
    have hr := rI i (by omega)
    have hle := hr.le
    have hln := hr.len
    have hJ' := hJ ⟨i + 1, h⟩ (by show _ - (i + 1) < _ - i; omega)
    have fin := rep_act F (self := self) (n := n) (cap := cap) hR h (by omega) rfl (eO i (by omega) (by omega)) (N := (repT O0 l i).1.length) (M := (repT O0 l i).2.length) (cs := cellsL orC (repT O0 l i).1) (ms := (repT O0 l i).2.map (.int .i64)) (by omega) (by omega) (by omega) (hA _ hin) (eb := eb) (R := R) (J := J) (fun ε a' w hrel => hJ' ε a' w (by
      have e : rpH F (runO O0 l (i + 1)) (repT O0 l (i + 1)).1.length (cellsL orC (repT O0 l (i + 1)).1) (repT O0 l (i + 1)).2.length ((repT O0 l (i + 1)).2.map (.int .i64)) = bif decide ((tryQ (runO O0 l i) (l.getD i orZ).c).e = 0) then rpH F (tryQ (runO O0 l i) (l.getD i orZ).c).o ((repT O0 l i).1.length + 1) (cellsL orC (repT O0 l i).1 ++ orC (l.getD i orZ)) ((repT O0 l i).2.length + 1) ((repT O0 l i).2.map (.int .i64) ++ [.int .i64 (tryQ (runO O0 l i) (l.getD i orZ).c).amt]) else rpH F (runO O0 l i) (repT O0 l i).1.length (cellsL orC (repT O0 l i).1) (repT O0 l i).2.length ((repT O0 l i).2.map (.int .i64)) := by
        have e1 : runO O0 l (i + 1) = stepO (runO O0 l i) (l.getD i orZ).c := rfl
        have e2 : repT O0 l (i + 1) = bif decide ((tryQ (runO O0 l i) (l.getD i orZ).c).e = 0) then ((repT O0 l i).1 ++ [l.getD i orZ], (repT O0 l i).2 ++ [(tryQ (runO O0 l i) (l.getD i orZ).c).amt]) else repT O0 l i := rfl
        rw [e1, e2]
        unfold stepO
        cases decide ((tryQ (runO O0 l i) (l.getD i orZ).c).e = 0)
        · rfl
        · show rpH F (tryQ (runO O0 l i) (l.getD i orZ).c).o ((repT O0 l i).1 ++ [l.getD i orZ]).length (cellsL orC ((repT O0 l i).1 ++ [l.getD i orZ])) ((repT O0 l i).2 ++ [(tryQ (runO O0 l i) (l.getD i orZ).c).amt]).length (((repT O0 l i).2 ++ [(tryQ (runO O0 l i) (l.getD i orZ).c).amt]).map (.int .i64)) = _
          rw [cellsL_snoc, List.length_append, List.length_append, List.map_append]; rfl
      show Rel _ 1 eb R ⟨rpSl self n a l.length cap (i + 1), rpH F (runO O0 l (i + 1)) _ _ _ _, 2⟩ ε a' w
      rw [e]; exact hrel))
    clear hJ hJ' c0 c1 hA eO rI
    generalize runO O0 l i = Oi at *
    generalize cellsL orC (repT O0 l i).1 = cs at *
    generalize (repT O0 l i).2.map (Value.int .i64) = ms at *
    exact leaf_cut (rgK Tryz.prog RepF 11 [J]) _ _ calNone false 400 [hB 9 3 _ _ z0, .stop 11] calNone_ok (by kernel_rfl) fin
  · have z0 : decide ((l.length : Int) < (l.length : Int)) = false := decide_eq_false (by omega)
    have e : i = l.length := by omega
    subst e
    have hr := rI l.length (Nat.le_refl _)
    have hfin := hr.fin
    have eE := eO l.length (Nat.le_refl _) (by omega)
    clear hJ c0 eO rI
    show Go _ _ _ _ _ _ _ _ (rpSl self n a l.length cap l.length) (rpH F (runO O0 l l.length) (repT O0 l l.length).1.length (cellsL orC (repT O0 l l.length).1) (repT O0 l l.length).2.length ((repT O0 l l.length).2.map (.int .i64)))
    generalize hT : (repT O0 l l.length).1 = T at *
    generalize hB' : (repT O0 l l.length).2 = A at *
    generalize runO O0 l l.length = OE at *
    have eT := runO_oi e0 (l := T) (F := F) (fun x hx => hA x (hr.mem x hx))
    have lT := hr.le
    refine go_loop (X := { j : Nat // j ≤ T.length }) 1 [] (fun x => (rp2Sl x.1, rp2H F OE (runO O0 T x.1) T.length (cellsL orC T) A.length (A.map (.int .i64)))) (fun x => T.length - x.1) ⟨0, Nat.zero_le _⟩ calNone false 400 [hB 9 3 _ _ z0, hC 19 2 c1] calNone_ok (by kernel_rfl) ?_
    rintro ⟨j, hj⟩ J2 hJ2
    by_cases h : j < T.length
    · have y0 : decide ((j : Int) < (T.length : Int)) = true := decide_eq_true (by omega)
      have hin : T.getD j orZ ∈ T := List.mem_of_getElem? (getD_some h orZ)
      have fin := rep2_act F (O := OE) (eT j (by omega) (by omega)) (by omega) hr.len h (by omega) (hA _ (hr.mem _ hin)) (hr.run j h).1 (hr.run j h).2 (eb := eb) (R := R) (J := J2) (hJ2 ⟨j + 1, h⟩ (by show _ - (j + 1) < _ - j; omega))
      clear hJ2 c1
      generalize cellsL orC T = cs at *
      generalize A.map (Value.int .i64) = ms at *
      exact leaf_cut (rgK Tryz.prog RepF 23 [J2]) _ _ calNone false 400 [hB 21 3 _ _ y0, .stop 23] calNone_ok (by kernel_rfl) fin
    · have y0 : decide ((T.length : Int) < (T.length : Int)) = false := decide_eq_false (by omega)
      have e : j = T.length := by omega
      subst e
      have fin := rep_end F eE (N := T.length) (M := A.length) (j := T.length) (cs := cellsL orC T) (ms := A.map (.int .i64)) (eb := eb) (R := R)
      clear hJ2 c1
      show Go _ _ _ _ _ _ _ _ (rp2Sl T.length) (rp2H F OE (runO O0 T T.length) T.length (cellsL orC T) A.length (A.map (.int .i64)))
      rw [hfin]
      generalize cellsL orC T = cs at *
      generalize A.map (Value.int .i64) = ms at *
      exact leaf_cut (rgK Tryz.prog RepF 27 []) _ _ calNone false 400 [hB 21 3 _ _ y0, .stop 27] calNone_ok (by kernel_rfl) fin
theorem rep_any (self n : Int) (a : Option Addr) (l : List OrX) (c : Nat) (w : World) (ws : (Lit.int .u8 self).wf = true) (_ : (Lit.int .i64 n).wf = true) (hr : Row w a (cellsL orC l)) (_ : a = none → c = 0) (_ : l.length ≤ maxLen) (ok : ∀ x ∈ l, OrIn w x) :
    Calls Tryz.prog RepF #[.int .u8 self, .int .i64 n, .slice a l.length c] w fun e w' => e = .returned (.bool true) ∧ Below w.heap.size w w' :=
  (rep_law (fun _ _ => oldC w) (wfu8 ws) (fun _ _ => rd_old hr) (fun g x hx => orRd_of (ok x hx) (by have := (greatB20_no g).2 x hx; omega) (by have := (greatB20_no g).2 x hx; omega)) (fun _ _ => (0, undef)) [] w (Mem.old w)).mono fun e w' ⟨x, h, hm⟩ => ⟨h, (show Mem (oldC w :: []) w' from hm).below 0 rfl⟩
end Go.Proofs.YtifapcpcemigdaaGreat
end
section
namespace Go.Proofs.YtifapcpcemigdaaGreat.officeReplaysF
open Go
theorem closed : joinedFacts Tryz.pinned.checked.prog 5 Tryz.f5 Rows.officeReplaysSpec Rows.officeReplaysRow = true := by kernel_rfl
theorem inst : Tryz.f5.isInstance Tryz.pinned.checked.prog Rows.officeReplaysRow.origin Rows.officeReplaysRow.targs := of_decide_eq_true (by kernel_rfl)
theorem wrap : Tryz.f5.isWrapper Tryz.pinned.checked.prog Rows.officeReplaysRow.wrapper Rows.officeReplaysRow.mainSum := by
  unfold Func.isWrapper
  first | (rw [if_pos (by decide +kernel)]; kernel_rfl) | (rw [if_neg (by decide +kernel)]; exact ⟨rfl, rfl⟩)
end Go.Proofs.YtifapcpcemigdaaGreat.officeReplaysF
end
