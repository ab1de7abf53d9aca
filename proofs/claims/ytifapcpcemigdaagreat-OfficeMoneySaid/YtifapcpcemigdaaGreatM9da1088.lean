/- Bw, Of10, OpB, OfO, Of12, Pc4, Of13, Of14, Of15, Tick19, Tb1, Tb2, Tb3, EbP4, Of18, Bs1, Of19, Of20, FsOfficeMoney. -/
import Derived.Test.YtifapcpcemigdaaGreatMf331612
import Derived.Test.YtifapcpcemigdaaGreatMa8ea5ac
import Derived.Test.YtifapcpcemigdaaGreatM81af217
import Derived.Test.YtifapcpcemigdaaGreatM305ace2
import Derived.Test.YtifapcpcemigdaaGreatM151558f
import Derived.Test.YtifapcpcemigdaaGreatM533403a
import Derived.Test.YtifapcpcemigdaaGreatM3fa2fb6
import Derived.Test.YtifapcpcemigdaaGreatM2efc9fd
import Derived.Test.YtifapcpcemigdaaGreatRows
import Derived.Test.YtifapcpcemigdaaGreatChecked
import Derived.ProofKit
import Derived.OpenShut
import Derived.ShutString
import Derived.ChangeOld
import Derived.Below
set_option maxRecDepth 100000
set_option linter.unusedVariables false
set_option linter.unusedSimpArgs false
set_option linter.unusedSectionVars false
section
namespace Go.Proofs.YtifapcpcemigdaaGreat
open Go.RowKit Go.Lib Go.Tk Go.Shelf Go.Vc Go.Sx
def sale15 : SaleV := ⟨⟨#[68, 79, 69, 47, 74]⟩, [⟨1, 0, 1⟩, ⟨0, 0, 1⟩], 101, [], 20⟩
theorem sale15_ok : SaleOk sale15 where
  name := by unfold maxLen; show (5 : Nat) ≤ _; decide
  legs := by intro l hl; simp [sale15] at hl; rcases hl with rfl | rfl <;> (unfold LegOk; decide)
  taxes := by intro t ht; cases ht
  fare := by decide
  pen := by decide
  nl := by decide
  nt := by decide
def t15 : Tid := ⟨1, 1⟩
def C15 : BookV := ⟨1, 3, [⟨t15, sale15, [51, 50], ⟨0, 0⟩, ⟨0, 0⟩, 0, 101, 0, 0, 0⟩], [(⟨t15, 0⟩, ownNew ⟨1, 0, 1⟩ 51), (⟨t15, 1⟩, ownNew ⟨0, 0, 1⟩ 50)], []⟩
theorem sort_15 : Go.Tk.sortL (restsL 101 2 [1, 1]) = [(1, 0), (1, 1)] := by
  refine (sortL_unique ?_ ?_).symm
  · decide
  · decide
theorem share_15 : shareV 101 [1, 1] = [51, 50] := by
  have e : shareE 101 [1, 1] = 0 := by decide
  unfold shareV
  rw [if_pos e]
  unfold shareL chosen
  have hs : ([1, 1] : List Int).sum = 2 := by decide
  rw [hs, sort_15]
  decide
theorem share15 : shareV sale15.fare (wsOf sale15) = [51, 50] := share_15
theorem iss15 : (bookNew 1 3).issued sale15 = C15 := by unfold BookV.issued docMade; rw [share15]; rfl
def k15 : Kid := ⟨⟨0, 7⟩, 0⟩
end Go.Proofs.YtifapcpcemigdaaGreat
end
section
namespace Go.Proofs.YtifapcpcemigdaaGreat
open Go.RowKit Go.Lib Go.Tk Go.Shelf Go.Vc Go.Sx
def recX (r : RecO) (x y : SV) : List SV := [.val (.int .u8 r.kind), .val (.int .u8 r.cmd.kind), .val (.int .u8 r.cmd.t.c), .val (.int .u64 r.cmd.t.r), .val (.int .u8 r.cmd.i)] ++ salS r.cmd.s x y ++ [.val (.int .i64 r.cmd.amt), .val (.int .u8 r.src), .val (.int .u64 r.num)] ++ msS r.m
theorem rec_args (r : RecO) : ∀ ε ε' x y x' y', SV.den ε x = SV.den ε' x' → SV.den ε y = SV.den ε' y' → (∀ s k, noTen s k = true → ε s k = ε' s k) → SV.dens ε [.ptr 0 0 0, .agg (recX r x y)] = SV.dens ε' [.ptr 0 0 0, .agg (recX r x' y')] := fun ε ε' x y x' y' h1 h2 h3 => by
  simp only [SV.dens, SV.den, recX, salS, msS, List.cons_append, List.nil_append, h1, h2, h3 0 0 rfl]
theorem try_D {O : OffV} {n : Nat} (h : OI O n) (hn : n < 4294967296) {r : RecO} (g : RecG r) :
    CallOK Tryz.prog OffTryF [.ptr 0 0 0, .agg (recX r (.raw 0 10) (.raw 0 11))] [((0, 10), legD r.cmd.s.legs.length r.cmd.s.legs), ((0, 11), taxD r.cmd.s.taxes.length r.cmd.s.taxes)] (offH O) (tryV (tryQ O r)) (tryP O (tryQ O r)) := by
  refine raw2 (args := fun x y => [.ptr 0 0 0, .agg (recX r x y)]) (rec_args r) (fun F A hl ht h1 h2 => try_w (F := F) h hn (r := r) (S := A) ⟨g.ok, g.ms, ⟨g.kind, g.t, g.i, g.sal, hl, ht, h1, h2⟩⟩) rfl ?_ ?_
  · unfold tryV; cases decide ((tryQ O r).e = 0) <;> rfl
  · unfold tryP; cases decide ((tryQ O r).e = 0) <;> rfl
def msg20 : MsV := ⟨0, ⟨⟨0, 0⟩, 0⟩, ⟨⟨0, 0, 0⟩, 0, 0, 0⟩, 0, 0⟩
def saleZ : SaleV := ⟨⟨#[]⟩, [], 0, [], 0⟩
def cmdZ : CmdO := ⟨0, ⟨0, 0⟩, 0, saleZ, 0⟩
theorem saleZ_ok : SaleOk saleZ where
  name := by unfold maxLen; show (0 : Nat) ≤ _; decide
  legs := by intro l hl; cases hl
  taxes := by intro t ht; cases ht
  fare := by decide
  pen := by decide
  nl := by decide
  nt := by decide
def wantZ : MsV := ⟨1, ⟨t15, 1⟩, ⟨⟨0, 0, 0⟩, 0, 0, 0⟩, 0, 0⟩
def r20a : RecO := ⟨1, ⟨1, ⟨0, 0⟩, 0, sale15, 0⟩, 0, 0, msg20⟩
def r20 (num : Int) : RecO := ⟨2, cmdZ, 0, num, wantZ⟩
theorem r20a_ok : RecG r20a := ⟨⟨by decide, by decide, by decide, by decide, ⟨⟨by decide, by decide⟩, by decide, by decide⟩⟩, ⟨by decide, by decide⟩, by decide, ⟨by decide, by decide⟩, by decide, sale15_ok⟩
theorem r20_ok {n : Int} (hn : 0 ≤ n ∧ n ≤ 18446744073709551615) : RecG (r20 n) := ⟨⟨(by show (0 : Int) ≤ 2 ∧ (2 : Int) ≤ 255; decide), (by show (0 : Int) ≤ 0 ∧ (0 : Int) ≤ 255; decide), hn, (by show (0 : Int) ≤ 1 ∧ (1 : Int) ≤ 255; decide), ⟨⟨(by show (0 : Int) ≤ 1 ∧ (1 : Int) ≤ 255; decide), (by show (0 : Int) ≤ 1 ∧ (1 : Int) ≤ _; decide)⟩, by show (0 : Int) ≤ 1; decide, by show (1 : Int) ≤ 255; decide⟩⟩, ⟨(by show (0 : Int) ≤ 0; decide), (by show (0 : Int) ≤ 255; decide)⟩, (by show (0 : Int) ≤ 0 ∧ (0 : Int) ≤ 255; decide), ⟨(by show (0 : Int) ≤ 0 ∧ (0 : Int) ≤ 255; decide), (by show (0 : Int) ≤ 0 ∧ (0 : Int) ≤ _; decide)⟩, (by show (0 : Int) ≤ 0 ∧ (0 : Int) ≤ 255; decide), saleZ_ok⟩
def O20 : OffV := offNew 1 3
def O20b : OffV := ⟨C15, newP 1 3⟩
theorem O20_oi : OI O20 0 := new_oi (by decide) (by decide)
theorem iss20 : exIssue (bookNew 1 3) sale15 = ⟨0, t15, 101, [1, 1], C15⟩ := by
  unfold exIssue
  have e : decide ((bookNew 1 3).issE sale15 = 0) = true := by kernel_rfl
  rw [e]
  show toldX ((bookNew 1 3).issued sale15) (bookNew 1 3).nextT (priceI sale15) = _
  rw [iss15]
  unfold toldX
  rw [show priceI sale15 = 101 by kernel_rfl]
  kernel_rfl
theorem q20a : tryQ O20 r20a = ⟨0, 0, t15, 101, [1, 1], O20b⟩ := by
  show cmdTQ O20.p (exIssue (bookNew 1 3) sale15) = _
  rw [iss20]
  rfl
theorem O20b_oi : OI O20b 1 := by
  have h := try_oi O20_oi (by decide) r20a_ok
  rw [q20a] at h
  exact h
def Sale20F : Nat := 21
def Wakes20F : Nat := 8
theorem sale20_w : CallOK Tryz.prog Sale20F [] [] [] (.agg (salS sale15 (.raw 1 0) nilS)) [((1, 0), legD 2 sale15.legs)] := callOK_run 400 [] (by kernel_rfl) (by kernel_rfl)
theorem wakes20_w : CallOK Tryz.prog Wakes20F [] [] [] (.val (.bool true)) [] := by
  have n1 := offNew_ok (self := 1) (n := 3) (by decide) (by decide)
  have n2 := sale20_w
  have n3 := try_D O20_oi (by decide) r20a_ok
  rw [q20a] at n3
  have n4 := try_D O20b_oi (by decide) (r20_ok (n := 2) (by decide))
  rw [(try_n (O := O20b) (q := tryQ O20b (r20 2)) (by decide)).1, (try_n (by decide)).2] at n4
  rw [show (tryQ O20b (r20 2)).e = 6 by kernel_rfl] at n4
  have n5 := try_D O20b_oi (by decide) (r20_ok (n := 1) (by decide))
  rw [(try_e (O := O20b) (q := tryQ O20b (r20 1)) (by decide)).1, (try_e (by decide)).2] at n5
  have iq := try_oi O20b_oi (by decide) (r20_ok (n := 1) (by decide))
  have lq : lenP (tryQ O20b (r20 1)).o.p 0 = 1 := by kernel_rfl
  generalize tryQ O20b (r20 1) = q at n5 iq lq
  have n6 := offPost_w iq.off
  have n7 := len_c q.o.p 0 (by decide) (by decide)
  rw [lq] at n7
  have n8 := offPost_w O20b_oi.off
  have n9 := len_c O20b.p 0 (by decide) (by decide)
  rw [show lenP O20b.p 0 = 0 by kernel_rfl] at n9
  have n10 := offBook_w O20_oi.off
  have n11 := tickets_c O20_oi.bk.bi.ex.bk
  exact callOK_run 900 [hC 1 0 n1, hC 4 1 n2, hC 4 4 n3, hC 8 3 n4, hC 9 3 n5, hC 10 8 n6, hC 10 9 n7, hC 10 14 n8, hC 10 15 n9, hC 10 20 n10, hC 10 21 n11] (by kernel_rfl) (by kernel_rfl)
end Go.Proofs.YtifapcpcemigdaaGreat
end
section
namespace Go.Proofs.YtifapcpcemigdaaGreat
open Go.RowKit Go.Lib Go.Tk Go.Shelf Go.Vc Go.Sx Go.WideShapes
def saleC (s : SaleV) (A : SaleA) : List Value := [.string s.name, .slice A.la s.legs.length A.lc, .int .i64 s.fare, .slice A.ta s.taxes.length A.tc, .int .i64 s.pen]
section
variable {H : Type} {enc : TypeId × Value → H} {w : World} {base : Nat} {spare : Nat → Bool} {held : Bool}
theorem FlatAs.split : ∀ {ts us : List TypeId} {cs : List Value}, FlatAs enc Tryz.prog w base spare held (ts ++ us) cs → ∃ a b, cs = a ++ b ∧ FlatAs enc Tryz.prog w base spare held ts a ∧ FlatAs enc Tryz.prog w base spare held us b
  | [], us, cs, h => ⟨[], cs, rfl, rfl, h⟩
  | t :: ts, us, cs, ⟨v, cs', e, hv, h⟩ => by
    obtain ⟨a, b, h1, ha, hb⟩ := FlatAs.split h
    subst h1
    subst e
    exact ⟨v :: a, b, rfl, ⟨v, a, rfl, hv, ha⟩, hb⟩
theorem sale_of {cs : List Value} (h : FlatAs enc Tryz.prog w base spare held [9, 29, 2, 30, 2] cs) : ∃ s A, saleC s A = cs ∧ SaleAt w s A ∧ SaleW s := by
  obtain ⟨v0, _, rfl, ⟨n0, y0, h0⟩, v1, _, rfl, ⟨n1, y1, h1⟩, v2, _, rfl, ⟨n2, y2, h2⟩, v3, _, rfl, ⟨n3, y3, h3⟩, v4, _, rfl, ⟨n4, y4, h4⟩, rfl⟩ := h
  obtain ⟨a0, e0, w0⟩ := string_cell Tryz.underlying9 h0
  cases e0
  obtain ⟨b1, a1, c1, e1, r1, i1, m1, o1⟩ := legs_cell h1
  cases e1
  obtain ⟨a2, e2, w2⟩ := int_cell Tryz.underlying2 h2
  cases e2
  obtain ⟨b3, a3, c3, e3, r3, i3, m3, o3⟩ := taxes_cell h3
  cases e3
  obtain ⟨a4, e4, w4⟩ := int_cell Tryz.underlying2 h4
  cases e4
  exact ⟨⟨a0, a1, a2, a3, a4⟩, ⟨b1, c1, b3, c3⟩, rfl, ⟨r1, r3, i1, i3⟩, ⟨w0, o1, o3, wfi64 w2, wfi64 w4, m1, m3⟩⟩
end
end Go.Proofs.YtifapcpcemigdaaGreat
end
section
namespace Go.Proofs.YtifapcpcemigdaaGreat
open Go.RowKit Go.Lib Go.Tk Go.Shelf Go.Vc Go.Sx Go.WideShapes
structure OrX where
  c : RecO
  A : SaleA
def orHeadC (c : RecO) : List Value := [.int .u8 c.kind, .int .u8 c.cmd.kind, .int .u8 c.cmd.t.c, .int .u64 c.cmd.t.r, .int .u8 c.cmd.i]
def orMidC (c : RecO) : List Value := [.int .i64 c.cmd.amt, .int .u8 c.src, .int .u64 c.num]
def orC (x : OrX) : List Value := orHeadC x.c ++ (saleC x.c.cmd.s x.A ++ (orMidC x.c ++ msL x.c.m))
structure OrIn (w : World) (x : OrX) : Prop where
  at_ : SaleAt w x.c.cmd.s x.A
  ok : SaleW x.c.cmd.s
  kind : 0 ≤ x.c.kind ∧ x.c.kind ≤ 255
  ck : 0 ≤ x.c.cmd.kind ∧ x.c.cmd.kind ≤ 255
  ct : TidOk x.c.cmd.t
  ci : 0 ≤ x.c.cmd.i ∧ x.c.cmd.i ≤ 255
  src : 0 ≤ x.c.src ∧ x.c.src ≤ 255
  num : 0 ≤ x.c.num ∧ x.c.num ≤ 18446744073709551615
  mkd : 0 ≤ x.c.m.kind ∧ x.c.m.kind ≤ 255
  ms : InB x.c.m.k.s
  key : KidOk x.c.m.key
section
variable {H : Type} {enc : TypeId × Value → H} {w : World} {base : Nat} {spare : Nat → Bool} {held : Bool}
theorem orHead_of {cs : List Value} (h : FlatAs enc Tryz.prog w base spare held [5, 5, 5, 33, 5] cs) : ∃ b c : Int, ∃ t : Tid, ∃ i : Int, [Value.int .u8 b, .int .u8 c, .int .u8 t.c, .int .u64 t.r, .int .u8 i] = cs ∧ (0 ≤ b ∧ b ≤ 255) ∧ (0 ≤ c ∧ c ≤ 255) ∧ TidOk t ∧ 0 ≤ i ∧ i ≤ 255 := by
  obtain ⟨v0, _, rfl, ⟨n0, y0, h0⟩, v1, _, rfl, ⟨n1, y1, h1⟩, v2, _, rfl, ⟨n2, y2, h2⟩, v3, _, rfl, ⟨n3, y3, h3⟩, v4, _, rfl, ⟨n4, y4, h4⟩, rfl⟩ := h
  obtain ⟨a0, e0, w0⟩ := int_cell Tryz.underlying5 h0
  cases e0
  obtain ⟨a1, e1, w1⟩ := int_cell Tryz.underlying5 h1
  cases e1
  obtain ⟨a2, e2, w2⟩ := int_cell Tryz.underlying5 h2
  cases e2
  obtain ⟨a3, e3, w3⟩ := int_cell Tryz.underlying33 h3
  cases e3
  obtain ⟨a4, e4, w4⟩ := int_cell Tryz.underlying5 h4
  cases e4
  exact ⟨a0, a1, ⟨a2, a3⟩, a4, rfl, wfu8 w0, wfu8 w1, ⟨wfu8 w2, wfu64 w3⟩, wfu8 w4⟩
theorem orMid_of {cs : List Value} (h : FlatAs enc Tryz.prog w base spare held [2, 5, 33] cs) : ∃ a b c : Int, [Value.int .i64 a, .int .u8 b, .int .u64 c] = cs ∧ (0 ≤ b ∧ b ≤ 255) ∧ 0 ≤ c ∧ c ≤ 18446744073709551615 := by
  obtain ⟨v0, _, rfl, ⟨n0, y0, h0⟩, v1, _, rfl, ⟨n1, y1, h1⟩, v2, _, rfl, ⟨n2, y2, h2⟩, rfl⟩ := h
  obtain ⟨a0, e0, w0⟩ := int_cell Tryz.underlying2 h0
  cases e0
  obtain ⟨a1, e1, w1⟩ := int_cell Tryz.underlying5 h1
  cases e1
  obtain ⟨a2, e2, w2⟩ := int_cell Tryz.underlying33 h2
  cases e2
  exact ⟨a0, a1, a2, rfl, wfu8 w1, wfu64 w2⟩
theorem orMsg_of {cs : List Value} (h : FlatAs enc Tryz.prog w base spare held [5, 5, 33, 5, 5, 40, 41, 2, 44, 41, 2, 26] cs) : ∃ m : MsV, msL m = cs ∧ (0 ≤ m.kind ∧ m.kind ≤ 255) ∧ InB m.k.s ∧ KidOk m.key := by
  obtain ⟨v0, _, rfl, ⟨n0, y0, h0⟩, v1, _, rfl, ⟨n1, y1, h1⟩, v2, _, rfl, ⟨n2, y2, h2⟩, v3, _, rfl, ⟨n3, y3, h3⟩, v4, _, rfl, ⟨n4, y4, h4⟩, v5, _, rfl, ⟨n5, y5, h5⟩, v6, _, rfl, ⟨n6, y6, h6⟩, v7, _, rfl, ⟨n7, y7, h7⟩, v8, _, rfl, ⟨n8, y8, h8⟩, v9, _, rfl, ⟨n9, y9, h9⟩, v10, _, rfl, ⟨n10, y10, h10⟩, v11, _, rfl, ⟨n11, y11, h11⟩, rfl⟩ := h
  obtain ⟨a0, e0, w0⟩ := int_cell Tryz.underlying5 h0
  cases e0
  obtain ⟨a1, e1, w1⟩ := int_cell Tryz.underlying5 h1
  cases e1
  obtain ⟨a2, e2, w2⟩ := int_cell Tryz.underlying33 h2
  cases e2
  obtain ⟨a3, e3, w3⟩ := int_cell Tryz.underlying5 h3
  cases e3
  obtain ⟨a4, e4, w4⟩ := int_cell Tryz.underlying5 h4
  cases e4
  obtain ⟨a5, e5, w5⟩ := int_cell Tryz.underlying40 h5
  cases e5
  obtain ⟨a6, e6, w6⟩ := int_cell Tryz.underlying41 h6
  cases e6
  obtain ⟨a7, e7, w7⟩ := int_cell Tryz.underlying2 h7
  cases e7
  obtain ⟨a8, e8, w8⟩ := int_cell Tryz.underlying44 h8
  cases e8
  obtain ⟨a9, e9, w9⟩ := int_cell Tryz.underlying41 h9
  cases e9
  obtain ⟨a10, e10, w10⟩ := int_cell Tryz.underlying2 h10
  cases e10
  obtain ⟨a11, e11, w11⟩ := int_cell Tryz.underlying26 h11
  cases e11
  exact ⟨⟨a0, ⟨⟨a1, a2⟩, a3⟩, ⟨⟨a4, a5, a6⟩, a7, a8, a9⟩, a10, a11⟩, rfl, wfu8 w0, wfu8 w8, ⟨wfu8 w1, wfu64 w2⟩, wfu8 w3⟩
def orTs : List TypeId := [5, 5, 5, 33, 5] ++ ([9, 29, 2, 30, 2] ++ ([2, 5, 33] ++ [5, 5, 33, 5, 5, 40, 41, 2, 44, 41, 2, 26]))
theorem or_of {cs : List Value} (h : FlatAs enc Tryz.prog w base spare held orTs cs) : ∃ x : OrX, orC x = cs ∧ OrIn w x := by
  obtain ⟨x1, r1, e1, h1, g1⟩ := FlatAs.split h
  obtain ⟨x2, r2, e2, h2, g2⟩ := FlatAs.split g1
  obtain ⟨x3, x4, e3, h3, h4⟩ := FlatAs.split g2
  obtain ⟨b, c, t, i, f1, k2, k3, k4, k5⟩ := orHead_of h1
  obtain ⟨s, A, f2, s1, s2⟩ := sale_of h2
  obtain ⟨am, src, num, f3, k6, k6b⟩ := orMid_of h3
  obtain ⟨m, f4, k6c, k6d, k7⟩ := orMsg_of h4
  refine ⟨⟨⟨b, ⟨c, t, i, s, am⟩, src, num, m⟩, A⟩, ?_, ⟨s1, s2, k2, k3, k4, k5, k6, k6b, k6c, k6d, k7⟩⟩
  rw [e1, e2, e3, ← f1, ← f2, ← f3, ← f4]
  rfl
theorem or_flat : flatT Tryz.prog 6 50 = some orTs := by kernel_rfl
theorem ors_cell {n : Nat} {v : Value} {y : DataW H × List MemPlace} (h : DataW.trod enc Tryz.prog w base spare held n 22 [v] = some y) :
    ∃ (a : Option Addr) (l : List OrX) (c : Nat), v = .slice a l.length c ∧ Row w a (cellsL orC l) ∧ (a = none → c = 0) ∧ l.length ≤ maxLen ∧ ∀ x ∈ l, OrIn w x := by
  obtain ⟨a, len, cap, rows, rfl, hlen, hrows, hr, hn, hm, _⟩ := slice_rows (fun cs => ∃ l : OrX, orC l = cs ∧ OrIn w l) Tryz.underlying22 (show Tryz.prog.cellsOf 50 = 25 by kernel_rfl) (by decide)
    (fun n cs y hl h => or_of (flat_of 6 _ _ or_flat n cs y h (by rw [hl]; kernel_rfl))) h
  obtain ⟨l, hl⟩ := listOf (enc := fun x : { x : OrX // OrIn w x } => orC x.1) (Q := fun cs => ∃ l : OrX, orC l = cs ∧ OrIn w l) (fun r ⟨x, hx, hk⟩ => ⟨⟨x, hk⟩, hx⟩) rows (fun r hr => (hrows r hr).2)
  have hl2 : (l.map (·.1)).map orC = rows := by rw [List.map_map]; exact hl
  have hl3 : (l.map (·.1)).length = len := by rw [← hlen, ← hl2]; simp
  refine ⟨a, l.map (·.1), cap, by rw [hl3], ?_, hn, by rw [hl3]; exact hm, fun x hx => ?_⟩
  · unfold cellsL; rw [hl2]; exact hr
  · obtain ⟨z, _, rfl⟩ := List.mem_map.1 hx; exact z.2
end
end Go.Proofs.YtifapcpcemigdaaGreat
end
section
namespace Go.Proofs.YtifapcpcemigdaaGreat
open Go.RowKit Go.Lib Go.Tk Go.Shelf Go.Vc Go.Sx
def OrT : TypeId := 22
def orZ : OrX := ⟨⟨0, ⟨0, ⟨0, 0⟩, 0, ⟨⟨#[]⟩, [], 0, [], 0⟩, 0⟩, 0, 0, ⟨0, ⟨⟨0, 0⟩, 0⟩, ⟨⟨0, 0, 0⟩, 0, 0, 0⟩, 0, 0⟩⟩, ⟨none, 0, none, 0⟩⟩
def orX (x : OrX) : List SV := recS x.c x.A
theorem orX_den (x : OrX) (ε : Env) : SV.dens ε (orX x) = orC x := rfl
theorem or_nth {l : List OrX} {i : Nat} (h : i < l.length) : ∀ (ε : Env) (q : Nat) (v : SV), (orX (l.getD i orZ))[q]? = some v → (cellsL orC l)[i * 25 + q]? = some (v.den ε) :=
  cells_nth (enc := orC) (encS := orX) orX_den (fun _ => rfl) (getD_some h orZ)
theorem or_len (l : List OrX) : (cellsL orC l).length = l.length * 25 := cellsL_len (enc := orC) (size := 25) (fun _ => rfl) l
def greatR (x : OrX) : Bool := decide ((20 : Int) < (x.c.cmd.s.legs.length : Int)) || (decide ((20 : Int) < (x.c.cmd.s.taxes.length : Int)) || decide ((200 : Int) < (x.c.cmd.s.name.size : Int)))
def greatB20 (l : List OrX) : Bool := decide ((120 : Int) < (l.length : Int)) || l.any greatR
def Great20F : Nat := 7
theorem great20_w (F : CF) {a : Option Addr} {cap : Nat} {l : List OrX} (hR : ∀ b v, Rd (F b v) a (cellsL orC l)) :
    CallOK Tryz.prog Great20F [.val (.slice a l.length cap), .val (.int .i64 120)] [((0, 9), .fam F)] [] (.val (.bool (greatB20 l))) [] := by
  rcases Bool.eq_false_or_eq_true (decide ((120 : Int) < (l.length : Int))) with g | g
  · rw [show greatB20 l = true by unfold greatB20; rw [g]; rfl]
    exact callOK_run 400 [hB 1 3 _ _ g] (by kernel_rfl) (by kernel_rfl)
  have hl150 : l.length ≤ 120 := by have := of_decide_eq_false g; omega
  refine callOK_intro (by kernel_rfl) fun eb R => ?_
  refine go_loop (X := { i : Nat // i ≤ l.length ∧ ∀ j, j < i → greatR (l.getD j orZ) = false }) 0 [] (fun x => ([(0, .val (.slice a l.length cap)), (5, .val (.int .i64 (x.1 : Int)))], [((0, 9), .fam F)])) (fun x => l.length - x.1) ⟨0, Nat.zero_le _, fun j hj => absurd hj (Nat.not_lt_zero _)⟩ calNone false 400 [hB 1 3 _ _ g] calNone_ok (by kernel_rfl) ?_
  rintro ⟨i, hi, hd⟩ J hJ
  by_cases h : i < l.length
  · have hin : l.getD i orZ ∈ l := List.mem_of_getElem? (getD_some h orZ)
    have q0 : decide ((i : Int) < (l.length : Int)) = true := decide_eq_true (by omega)
    have q1 := idx_openG (P := Tryz.prog) (t := OrT) (e := 50) (size := 25) (j := 9) (k := .i64) (cap := cap) (n := l.length) Tryz.underlying22 (by kernel_rfl) (or_len l) hR h
    have hpos : 0 < (cellsL orC l).length := by rw [or_len]; omega
    have q2 := load_openG2 (P := Tryz.prog) (t := 32) (k := i * 25) (j := 9) (u := .agg (salS (l.getD i orZ).c.cmd.s (.val (.slice (l.getD i orZ).A.la (l.getD i orZ).c.cmd.s.legs.length (l.getD i orZ).A.lc)) (.val (.slice (l.getD i orZ).A.ta (l.getD i orZ).c.cmd.s.taxes.length (l.getD i orZ).A.tc)))) 1 4 (by kernel_rfl) hR (or_nth h) hpos
    have q9 : IntKind.i64.wrap ((i : Int) + 1) = ((i + 1 : Nat) : Int) := by rw [wr_i64 (by omega)]; omega
    have bad : greatR (l.getD i orZ) = true → greatB20 l = true := fun e => by
      unfold greatB20
      rw [List.any_eq_true.2 ⟨_, hin, e⟩, Bool.or_true]
    have good : greatR (l.getD i orZ) = false → ∀ j, j < i + 1 → greatR (l.getD j orZ) = false := fun e j hj => by
      by_cases q : j = i
      · subst q; exact e
      · exact hd j (by omega)
    generalize hx : l.getD i orZ = x at *
    rcases Bool.eq_false_or_eq_true (decide ((20 : Int) < (x.c.cmd.s.legs.length : Int))) with g1 | g1
    · rw [bad (by unfold greatR; rw [g1]; rfl)]
      exact leaf_end calNone false 400 [hB 4 3 _ _ q0, hG 6 2 q1, hG 6 5 q2, hB 7 3 _ _ g1] calNone_ok (by kernel_rfl)
    rcases Bool.eq_false_or_eq_true (decide ((20 : Int) < (x.c.cmd.s.taxes.length : Int))) with g2 | g2
    · rw [bad (by unfold greatR; rw [g1, g2]; rfl)]
      exact leaf_end calNone false 400 [hB 4 3 _ _ q0, hG 6 2 q1, hG 6 5 q2, hB 7 3 _ _ g1, hB 7 8 _ _ g2] calNone_ok (by kernel_rfl)
    rcases Bool.eq_false_or_eq_true (decide ((200 : Int) < (x.c.cmd.s.name.size : Int))) with g3 | g3
    · rw [bad (by unfold greatR; rw [g1, g2, g3]; rfl)]
      exact leaf_end calNone false 400 [hB 4 3 _ _ q0, hG 6 2 q1, hG 6 5 q2, hB 7 3 _ _ g1, hB 7 8 _ _ g2, hB 7 14 _ _ g3] calNone_ok (by kernel_rfl)
    have gg : greatR x = false := by unfold greatR; rw [g1, g2, g3]; rfl
    have hJ' := hJ ⟨i + 1, h, good gg⟩ (by show _ - (i + 1) < _ - i; omega)
    exact leaf_next calNone false 400 [hB 4 3 _ _ q0, hG 6 2 q1, hG 6 5 q2, hB 7 3 _ _ g1, hB 7 8 _ _ g2, hB 7 14 _ _ g3, hI 5 1 IntKind.i64 _ _ q9] calNone_ok hJ' (by kernel_rfl)
  · have q0 : decide ((i : Int) < (l.length : Int)) = false := decide_eq_false (by omega)
    have e : greatB20 l = false := by
      unfold greatB20
      rw [g, Bool.false_or, List.any_eq_false]
      intro x hx
      obtain ⟨j, hj, rfl⟩ := List.getElem_of_mem hx
      have := hd j (by omega)
      rw [List.getD_eq_getElem?_getD, List.getElem?_eq_getElem hj] at this
      simpa using this
    rw [e]
    exact leaf_end calNone false 400 [hB 4 3 _ _ q0] calNone_ok (by kernel_rfl)
theorem greatB20_no {l : List OrX} (h : greatB20 l = false) : l.length ≤ 120 ∧ ∀ x ∈ l, x.c.cmd.s.legs.length ≤ 20 ∧ x.c.cmd.s.taxes.length ≤ 20 := by
  unfold greatB20 at h
  rw [Bool.or_eq_false_iff] at h
  refine ⟨by have := of_decide_eq_false h.1; omega, fun x hx => ?_⟩
  have := List.any_eq_false.1 h.2 x hx
  unfold greatR at this
  simp only [Bool.not_eq_true, Bool.or_eq_false_iff, decide_eq_false_iff_not] at this
  omega
abbrev OrRd (F : CF) (x : OrX) : Prop := RecRd F x.c x.A
theorem orRd_of {w : World} {x : OrX} (h : OrIn w x) (h1 : x.c.cmd.s.legs.length ≤ 1000) (h2 : x.c.cmd.s.taxes.length ≤ 1000) : OrRd (fun _ _ => oldC w) x where
  ok := ⟨h.kind, h.src, h.num, h.mkd, h.key⟩
  ms := h.ms
  cmd := ⟨h.ck, h.ct, h.ci, h.ok.small h1 h2, fun _ _ => rd_old h.at_.legs, fun _ _ => rd_old h.at_.taxes, slOk_row h.at_.legs (fun _ e => by rw [cellsL_len encLeg_len] at e; omega) h.at_.lnil, slOk_row h.at_.taxes (fun _ e => by rw [encTaxL_len] at e; omega) h.at_.tnil⟩
def runO (O : OffV) (l : List OrX) : Nat → OffV
  | 0 => O
  | i + 1 => stepO (runO O l i) (l.getD i orZ).c
theorem runO_oi {F : CF} {O : OffV} {n : Nat} (h : OI O n) {l : List OrX} (hl : ∀ x ∈ l, OrRd F x) : ∀ i, i ≤ l.length → n + i < 4294967296 → OI (runO O l i) (n + i)
  | 0, _, _ => h
  | i + 1, hi, hn => step_oi (runO_oi h hl i (by omega) (by omega)) (by omega) (hl _ (List.mem_of_getElem? (getD_some (by omega) orZ))).g
theorem try_x {F : CF} {O : OffV} {n : Nat} (h : OI O n) (hn : n < 4294967296) {x : OrX} (hr : OrRd F x) : CallOK Tryz.prog OffTryF [.ptr 0 0 0, .agg (orX x)] [((0, 9), .fam F)] (offH O) (tryV (tryQ O x.c)) (tryP O (tryQ O x.c)) := try_w h hn hr
end Go.Proofs.YtifapcpcemigdaaGreat
end
section
namespace Go.Proofs.YtifapcpcemigdaaGreat
open Go.RowKit Go.Lib Go.Tk Go.Shelf Go.Maps Go.Vc Go.Sx
end Go.Proofs.YtifapcpcemigdaaGreat
end
section
namespace Go.Proofs.YtifapcpcemigdaaGreat
open Go.RowKit Go.Lib Go.Tk Go.Shelf Go.Vc Go.Sx
end Go.Proofs.YtifapcpcemigdaaGreat
end
section
namespace Go.Proofs.YtifapcpcemigdaaGreat
open Go.RowKit Go.Lib Go.Tk Go.Shelf Go.Vc Go.Sx
theorem statusL_len (B : BookV) (t : Tid) : (statusL B t).length ≤ 4 := by
  show ((coupL B t).map (·.k.s)).length ≤ 4
  rw [List.length_map]
  rcases coupL_cases B t with ⟨e, -⟩ | ⟨a, e, -⟩ | ⟨a, b, e, -⟩ | ⟨a, b, c, e, -⟩ | ⟨a, b, c, x, e, -⟩ <;> rw [e] <;> simp
def stD (l : List Int) : SC := .row 44 1 l.length (.deep (l.map fun s => .val (.int .u8 s))) []
def puH (F : CF) (O : OffV) : Heap := [((0, 9), .fam F)] ++ offA 1 0 O
end Go.Proofs.YtifapcpcemigdaaGreat
end
section
namespace Go.Proofs.YtifapcpcemigdaaGreat
open Go.RowKit Go.Lib Go.Tk Go.Shelf Go.Vc Go.Sx
theorem step_yes {O : OffV} {r : RecO} (h : (tryQ O r).e = 0) : stepO O r = (tryQ O r).o := by unfold stepO; rw [decide_eq_true h]; rfl
theorem step_no {O : OffV} {r : RecO} (h : (tryQ O r).e ≠ 0) : stepO O r = O := by unfold stepO; rw [decide_eq_false h]; rfl
end Go.Proofs.YtifapcpcemigdaaGreat
end
section
namespace Go.Proofs.YtifapcpcemigdaaGreat
open Go.RowKit Go.Lib Go.Tk Go.Sort Go.Shelf
def stB (s : Int) : Bool := decide (1 ≤ s) && decide (s ≤ 7)
theorem is_anyT (s : Int) (w : World) :
    Calls Tryz.prog 40 #[.int .u8 s] w fun e w' => e = .returned (.bool (stB s)) ∧ w = w' := by
  go_enter Tryz.func40, Tryz.ntmps40
  go_wp2
  all_goals (go_ret; refine ⟨ret_bool ?_, rfl⟩; unfold stB; rw [Bool.eq_iff_iff]; simp; omega)
theorem notIs_any (s : Int) (w : World) :
    Calls Tryz.prog 39 #[.int .u8 s] w fun e w' => e = .returned (.bool (!stB s)) ∧ w = w' := by
  go_enter Tryz.func39, Tryz.ntmps39
  go_wp2_with fail
  refine (is_anyT _ _).mono ?_
  rintro e w' ⟨rfl, rfl⟩
  go_wp2
  go_ret
  exact ⟨rfl, rfl⟩
theorem st_at {w : World} {a : Option Addr} {l : List Int} (h : Row w a (l.map (.int .u8))) {k : Nat} (hk : k < l.length) :
    ∃ b off, a = some ⟨b, off, none⟩ ∧ w.cell? ⟨b, off + k, none⟩ = some (.int .u8 l[k]) := by
  obtain ⟨b, off, hab, hc⟩ := h k (by simpa using hk)
  refine ⟨b, off, hab, ?_⟩
  rw [hc]; simp [List.getD_eq_getElem?_getD, hk]
set_option maxHeartbeats 1000000 in
theorem idxSt_any (l : List Int) (a : Option Addr) (m cap : Nat) (w : World) (hn : l.length = m) (hm : m ≤ 9223372036854775807) (hr : Row w a (l.map (.int .u8))) :
    Calls Tryz.prog 71 #[.slice a m cap, .func (.func 39) #[] #[]] w (IdxIs (l.any (fun s => !stB s)) w) := by
  subst hn
  have Hr := hid hr
  clear hr
  go_enter Tryz.func71, Tryz.ntmps71
  go_wp2
  go_loopw [8] (fun i wr => ∃ k : Nat, k ≤ l.length ∧ i = .int .i64 k ∧ Hid ((l.take k).any (fun s => !stB s) = false) ∧ Aside (Below w.heap.size w wr)) (fun i _ => l.length - (intOf i).toNat)
  case atStart => exact ⟨0, Nat.zero_le _, rfl, rfl, Below.refl _ _⟩
  case round =>
    obtain ⟨k, hk, rfl, H, B⟩ := hrel
    by_cases hlt2 : k < l.length
    · obtain ⟨b, off, rfl, c1⟩ := st_at (Hr.out.kept B.out) hlt2
      have HS := hid (any_take_succ (p := fun s => !stB s) hlt2)
      have HTq := hid (any_at (p := fun s => !stB s) hlt2)
      generalize l[k] = x at *
      have KEY := hid (notIs_any x wr)
      cases hp : stB x with
      | false =>
        have HU := hid (HTq.out (by rw [hp]; rfl))
        go_wp2_with fail
        refine KEY.out.mono ?_
        rintro e w2 ⟨rfl, rfl⟩
        rw [hp]
        clear hp
        go_wp2
        go_ret
        exact ⟨k, rfl, by rw [HU.out]; exact decide_eq_true (by omega), B.out⟩
      | true =>
        have HU := hid hp
        go_wp2_with fail
        refine KEY.out.mono ?_
        rintro e w2 ⟨rfl, rfl⟩
        rw [hp]
        clear hp
        go_wp2
        go_roundw
        case rel => exact ⟨k + 1, by omega, by go_num, hid (by rw [HS.out, H.out, HU.out]; rfl), B.out⟩
        case measure => simp [intOf]; omega
    · obtain rfl : k = l.length := by omega
      have HU := hid (show l.any (fun s => !stB s) = false by have := H.out; rw [List.take_length] at this; exact this)
      clear H
      go_wp2
      go_ret
      exact ⟨-1, rfl, by rw [HU.out]; decide, B.out⟩
set_option maxHeartbeats 400000 in
theorem hasSt_any (l : List Int) (a : Option Addr) (m cap : Nat) (w : World) (hn : l.length = m) (hm : m ≤ 9223372036854775807) (hr : Row w a (l.map (.int .u8))) :
    Calls Tryz.prog 38 #[.slice a m cap, .func (.func 39) #[] #[]] w fun e w' => e = .returned (.bool (l.any (fun s => !stB s))) ∧ Below w.heap.size w w' := by
  have KEY := hid (idxSt_any l a m cap w hn hm hr)
  clear hr hn
  go_enter Tryz.func38, Tryz.ntmps38
  go_wp2_with fail
  refine KEY.out.mono ?_
  rintro e w2 ⟨r, rfl, hr, hb2⟩
  have HR := hid hr
  clear hr
  go_wp2
  go_ret
  exact ⟨ret_bool (by first | exact HR.out | (rw [← HR.out])), hb2⟩
end Go.Proofs.YtifapcpcemigdaaGreat
end
section
namespace Go.Proofs.YtifapcpcemigdaaGreat
open Go.RowKit Go.Lib Go.Tk
structure TDocV where
  c : Int
  r : Int
  s : SaleV
  vals : List Int
  fc : Int
  fr : Int
  tc : Int
  tr : Int
  cred : Int
  paid : Int
  back : Int
  kept : Int
  left : Int
structure TDocA where
  S : SaleA
  va : Option Addr
  vc : Nat
def tdocArr (d : TDocV) (D : TDocA) : Array Value :=
  #[.int .u8 d.c, .int .u64 d.r, .string d.s.name, .slice D.S.la d.s.legs.length D.S.lc, .int .i64 d.s.fare, .slice D.S.ta d.s.taxes.length D.S.tc, .int .i64 d.s.pen, .slice D.va d.vals.length D.vc, .int .u8 d.fc, .int .u64 d.fr, .int .u8 d.tc, .int .u64 d.tr, .int .i64 d.cred, .int .i64 d.paid, .int .i64 d.back, .int .i64 d.kept, .int .i64 d.left]
def tdocAgg (d : TDocV) (D : TDocA) : Value := .agg (tdocArr d D)
structure TDocAt (w : World) (d : TDocV) (D : TDocA) : Prop where
  sale : SaleAt w d.s D.S
  vals : Row w D.va (d.vals.map (.int .i64))
theorem TDocAt.kept {w w' : World} {d : TDocV} {D : TDocA} (h : TDocAt w d D) (hb : Below w.heap.size w w') : TDocAt w' d D := ⟨h.sale.kept hb, h.vals.kept hb⟩
def lessZ (z : List (Int × Int)) : List Int := (z.filter (fun p => decide (p.1 ≤ 4))).map (·.2)
def lessL (vals st : List Int) : List Int := lessZ (st.zip vals)
theorem lessZ_snoc (z : List (Int × Int)) (p : Int × Int) : lessZ (z ++ [p]) = if p.1 ≤ 4 then lessZ z ++ [p.2] else lessZ z := by
  unfold lessZ
  by_cases h : p.1 ≤ 4
  · rw [if_pos h, List.filter_append, List.map_append]; simp [h]
  · rw [if_neg h, List.filter_append, List.map_append]; simp [h]
theorem zip_step {st vals : List Int} {k : Nat} (h1 : k < st.length) (h2 : k < vals.length) : (st.zip vals).take (k + 1) = (st.zip vals).take k ++ [(st[k], vals[k])] := by
  have h : k < (st.zip vals).length := by rw [List.length_zip]; omega
  rw [List.take_succ_eq_append_getElem h, List.getElem_zip]
theorem less_yes {st vals : List Int} {k : Nat} (h1 : k < st.length) (h2 : k < vals.length) (h : st[k] ≤ 4) : lessZ ((st.zip vals).take (k + 1)) = lessZ ((st.zip vals).take k) ++ [vals[k]] := by
  rw [zip_step h1 h2, lessZ_snoc, if_pos h]
theorem less_no {st vals : List Int} {k : Nat} (h1 : k < st.length) (h2 : k < vals.length) (h : ¬ st[k] ≤ 4) : lessZ ((st.zip vals).take (k + 1)) = lessZ ((st.zip vals).take k) := by
  rw [zip_step h1 h2, lessZ_snoc, if_neg h]
theorem less_all {st vals : List Int} (h : st.length = vals.length) : lessZ ((st.zip vals).take st.length) = lessL vals st := by
  unfold lessL; rw [List.take_of_length_le (by rw [List.length_zip]; omega)]
def subStep (s : Int × Int) (a : Int) : Int × Int := if s.2 = 0 then subI s.1 a else s
def subAll (s : Int × Int) (l : List Int) : Int × Int := l.foldl subStep s
theorem subAll_drop {s : Int × Int} {l : List Int} {k : Nat} (h : k < l.length) : subAll s (l.drop k) = subAll (subStep s l[k]) (l.drop (k + 1)) := by
  unfold subAll; rw [List.drop_eq_getElem_cons h]; rfl
def badSt (st : List Int) : Bool := st.any (fun s => !stB s)
def lessAll (d : TDocV) (st : List Int) : List Int := [d.back, d.kept, d.left] ++ lessL d.vals st
def balOk (d : TDocV) (st : List Int) (pl : Nat) : Prop := st.length = d.vals.length ∧ pl = d.vals.length ∧ badSt st = false
instance (d : TDocV) (st : List Int) (pl : Nat) : Decidable (balOk d st pl) := inferInstanceAs (Decidable (_ ∧ _ ∧ _))
def balI (d : TDocV) (st : List Int) (pl : Nat) : Int × Int := if balOk d st pl then subAll (sumFrom 0 [d.paid, d.cred]) (lessAll d st) else (0, 1)
theorem mem_less {vals st : List Int} {x : Int} (h : x ∈ lessL vals st) : x ∈ vals := by
  unfold lessL lessZ at h
  obtain ⟨p, hp, rfl⟩ := List.mem_map.1 h
  have h1 := (List.mem_filter.1 hp).1
  obtain ⟨a, b⟩ := p
  exact (List.of_mem_zip h1).2
end Go.Proofs.YtifapcpcemigdaaGreat
end
section
namespace Go.Proofs.YtifapcpcemigdaaGreat
open Go.RowKit Go.Lib Go.Tk Go.Sort Go.Shelf
def tdocBox (w : World) (b : Nat) (d : TDocV) (D : TDocA) : Prop := Box w b (tdocArr d D)
theorem tdocBox.kept {w w' : World} {b : Nat} {d : TDocV} {D : TDocA} (h : tdocBox w b d D) (hb : Below w.heap.size w w') : tdocBox w' b d D := Box.kept h hb
theorem tdocBox.vals {w : World} {b : Nat} {d : TDocV} {D : TDocA} (h : tdocBox w b d D) : w.cell? ⟨b, 7, none⟩ = some (.slice D.va d.vals.length D.vc) := Box.cell h 7 rfl
theorem tdocBox.cred {w : World} {b : Nat} {d : TDocV} {D : TDocA} (h : tdocBox w b d D) : w.cell? ⟨b, 12, none⟩ = some (.int .i64 d.cred) := Box.cell h 12 rfl
theorem tdocBox.paid {w : World} {b : Nat} {d : TDocV} {D : TDocA} (h : tdocBox w b d D) : w.cell? ⟨b, 13, none⟩ = some (.int .i64 d.paid) := Box.cell h 13 rfl
theorem tdocBox.back {w : World} {b : Nat} {d : TDocV} {D : TDocA} (h : tdocBox w b d D) : w.cell? ⟨b, 14, none⟩ = some (.int .i64 d.back) := Box.cell h 14 rfl
theorem tdocBox.keptC {w : World} {b : Nat} {d : TDocV} {D : TDocA} (h : tdocBox w b d D) : w.cell? ⟨b, 15, none⟩ = some (.int .i64 d.kept) := Box.cell h 15 rfl
theorem tdocBox.left {w : World} {b : Nat} {d : TDocV} {D : TDocA} (h : tdocBox w b d D) : w.cell? ⟨b, 16, none⟩ = some (.int .i64 d.left) := Box.cell h 16 rfl
theorem tint_at {k : IntKind} {w : World} {a : Option Addr} {l : List Int} (h : Row w a (l.map (.int k))) {i : Nat} (hi : i < l.length) :
    ∃ b off, a = some ⟨b, off, none⟩ ∧ w.cell? ⟨b, off + i, none⟩ = some (.int k l[i]) := by
  obtain ⟨b, off, hab, hc⟩ := h i (by simpa using hi)
  refine ⟨b, off, hab, ?_⟩
  rw [hc]; simp [List.getD_eq_getElem?_getD, hi]
set_option maxRecDepth 100000 in
set_option maxHeartbeats 4000000 in
theorem balance_no (d : TDocV) (D : TDocA) (st : List Int) (sa : Option Addr) (sc : Nat) (pa : Option Addr) (pl pc : Nat) (w : World) (hs : Row w sa (st.map (.int .u8)))
    (_ls : st.length ≤ 1000) (_lv : d.vals.length ≤ 1000) (lp : pl ≤ 1000) (hb : ¬ balOk d st pl) :
    Calls Tryz.prog 16 #[tdocAgg d D, .slice sa st.length sc, .slice pa pl pc] w fun e w' => e = .returned (.tuple #[.int .i64 0, .int .i64 1]) ∧ Below w.heap.size w w' := by
  have HS := hid hs
  clear hs
  unfold tdocAgg tdocArr
  by_cases h1 : st.length = d.vals.length
  case neg =>
    have q : ((st.length : Int) != (d.vals.length : Int)) = true := by rw [bne_iff_ne]; omega
    clear hb
    go_enter Tryz.func16, Tryz.ntmps16
    go_wp2_with fail
    go_ret2
    exact ⟨rfl, below_alloc _ _⟩
  case pos =>
  by_cases h2 : pl = d.vals.length
  case neg =>
    have q : ((st.length : Int) != (d.vals.length : Int)) = false := by simp [h1]
    have q2 : ((pl : Int) != (d.vals.length : Int)) = true := by rw [bne_iff_ne]; omega
    clear hb
    go_enter Tryz.func16, Tryz.ntmps16
    go_wp2_with fail
    go_ret2
    exact ⟨rfl, below_alloc _ _⟩
  case pos =>
    have q : ((st.length : Int) != (d.vals.length : Int)) = false := by simp [h1]
    have q2 : ((pl : Int) != (d.vals.length : Int)) = false := by simp [h2]
    have hbad : badSt st = true := by
      cases hq : badSt st with
      | true => rfl
      | false => exact absurd ⟨h1, h2, hq⟩ hb
    have HB := hid hbad
    have K := hid (fun w' (hb : Below w.heap.size w w') => hasSt_any st sa st.length sc w' rfl (by omega) (HS.out.kept hb))
    clear hb hbad h1 h2
    go_enter Tryz.func16, Tryz.ntmps16
    go_wp2_with fail
    refine (K.out _ (below_alloc _ _)).mono ?_
    rintro e w2 ⟨rfl, hb2⟩
    rw [show (st.any fun s => !stB s) = true from HB.out]
    have B2 := hid (bt (below_alloc _ _) hb2)
    clear hb2 K
    go_wp2
    go_ret2
    exact ⟨rfl, B2.out⟩
set_option maxRecDepth 100000 in
set_option maxHeartbeats 8000000 in
theorem balance_yes (d : TDocV) (D : TDocA) (st : List Int) (sa : Option Addr) (sc : Nat) (pa : Option Addr) (pl pc : Nat) (w : World) (hs : Row w sa (st.map (.int .u8))) (hd : Row w D.va (d.vals.map (.int .i64)))
    (lv : d.vals.length ≤ 1000) (hb : balOk d st pl) :
    Calls Tryz.prog 16 #[tdocAgg d D, .slice sa st.length sc, .slice pa pl pc] w fun e w' => e = .returned (.tuple #[.int .i64 (subAll (sumFrom 0 [d.paid, d.cred]) (lessAll d st)).1, .int .i64 (subAll (sumFrom 0 [d.paid, d.cred]) (lessAll d st)).2]) ∧ Below w.heap.size w w' := by
  have HS := hid hs
  have HV := hid hd
  obtain ⟨h1, h2, h3⟩ := hb
  have HB := hid h3
  have q : ((st.length : Int) != (d.vals.length : Int)) = false := by simp [h1]
  have q2 : ((pl : Int) != (d.vals.length : Int)) = false := by simp [h2]
  have K := hid (fun w' (hb : Below w.heap.size w w') => hasSt_any st sa st.length sc w' rfl (by omega) (HS.out.kept hb))
  have KS := hid (fun w' a c (hr : Row w' a ([d.paid, d.cred].map (.int .i64))) => sum_anyN a 2 c [d.paid, d.cred] w' rfl hr (by simp))
  obtain ⟨s0, hs0⟩ : ∃ s0, sumFrom 0 [d.paid, d.cred] = s0 := ⟨_, rfl⟩
  rw [hs0] at KS ⊢
  have H1 := hid h1
  obtain ⟨res, hres⟩ : ∃ res, subAll s0 (lessAll d st) = res := ⟨_, rfl⟩
  rw [hres]
  have HRES := hid hres
  clear hres
  clear hs hd h2 h3 hs0 h1
  obtain ⟨W1, hW1⟩ : ∃ W1, W1 = w.alloc (.cells (tdocArr d D) 62) := ⟨_, rfl⟩
  have xd1 : tdocBox W1 w.heap.size d D := by rw [hW1]; exact Box.new rfl
  have b1 : Below w.heap.size w W1 := by rw [hW1]; exact below_alloc _ _
  have HI := hid i64row3
  unfold tdocArr at hW1
  have HW := hid hW1
  clear hW1
  unfold tdocAgg tdocArr
  go_enter Tryz.func16, Tryz.ntmps16
  go_wp2_with fail
  rw [← HW.out]
  refine (K.out _ b1).mono ?_
  rintro e w2 ⟨rfl, hb2⟩
  rw [show (st.any fun s => !stB s) = false from HB.out]
  have xd2 := xd1.kept hb2
  have b2 := bt b1 hb2
  have XD2 := hid xd2
  have B2 := hid b2
  have k13 := xd2.paid
  have k12 := xd2.cred
  clear xd1 b1 hb2 HW K HB xd2 b2
  go_wp2_with fail
  refine (KS.out _ _ _ (row_new rfl)).mono ?_
  rintro e w3 ⟨rfl, hb3⟩
  have bb : Below w2.heap.size w2 w3 := bt (below_alloc _ _) hb3
  have xd3 := XD2.out.kept bb
  have B3 := hid (bt B2.out bb)
  have k14 := xd3.back
  have k15 := xd3.keptC
  have k16 := xd3.left
  have XD3 := hid xd3
  clear k13 k12 KS B2 XD2 hb3 bb xd3
  go_wp2
  go_loopw [10, 51] (fun s10 i wr => ∃ (k n : Nat) (v : Value) (L : List Int), k ≤ st.length ∧ i = .int .i64 k ∧ s10 = v ∧ n = L.length ∧ n ≤ 3 + k ∧ Hid (L = [d.back, d.kept, d.left] ++ lessZ ((st.zip d.vals).take k)) ∧ Aside (wr.ownsRow w3.heap.size 2 1 v n (L.map (.int .i64))) ∧ Aside (Below w3.heap.size w3 wr)) (fun _ i _ => st.length - (intOf i).toNat)
  case atStart =>
    refine ⟨0, 3, _, [d.back, d.kept, d.left], Nat.zero_le _, rfl, rfl, rfl, by omega, ?_, ?_, below_alloc _ _⟩
    · rw [List.take_zero]; rfl
    · have := World.ownsRow_lit (base := w3.heap.size) (e := 2) (size := 1) w3 #[.int .i64 d.back, .int .i64 d.kept, .int .i64 d.left] 3 (by simp) (by unfold maxLen; omega) rfl
      show World.ownsRow _ _ _ _ _ _ _
      simpa using this
  case round =>
    obtain ⟨k, n, v, L, hk, rfl, rfl, hn, hle, HL, O1, B1⟩ := hrel
    have hbs := B1.out.size
    by_cases hlt : k < st.length
    · have hv : k < d.vals.length := by have := H1.out; omega
      obtain ⟨b, off, rfl, c1⟩ := st_at (HS.out.kept (bt B3.out B1.out)) hlt
      have LY := hid (fun h => less_yes hlt hv h)
      have LN := hid (fun h => less_no hlt hv h)
      obtain ⟨b2, off2, hva, c2⟩ := tint_at (HV.out.kept (bt B3.out B1.out)) hv
      have kv := (XD3.out.kept B1.out).vals
      rw [hva] at kv
      generalize st[k] = x at *
      generalize d.vals[k] = y at *
      by_cases hx : x ≤ 4
      · have HX := hid hx
        have hm1 : n + 1 ≤ maxLen := by unfold maxLen; omega
        have hm8 : (n + 1) * 8 ≤ 140737488355328 := by omega
        go_wp2_with (at_builtin; refine wpList_append_row_at rfl _ _ 60 rfl w3.heap.size 2 (.int .i64 0) 1 8 Tryz.underlying60 HI.out rfl (by decide) _ n _ rfl (World.ownsRow.alloc O1.out _) _ 1 1 [.int .i64 y] rfl (by simp) (row_new (by simp)) rfl (by simp [Value.oneCell']) hm1 hm8 (by simp; omega) ?_; intro v1 w4 ho1 hg1 hat1)
        have hg1' : (wr.alloc (.cells #[.int .i64 y] 2)).grownBy w4 u10.ownBlock := hg1
        have B4 : Aside (Below w3.heap.size w3 w4) := (B1.out.alloc B1.out.size _).grown hg1' (by simp; omega) (fun g e => (World.ownsRow.lt O1.out g e).1)
        have O4 : Aside (w4.ownsRow w3.heap.size 2 1 v1 (n + 1) ((L ++ [y]).map (.int .i64))) := by
          show World.ownsRow _ _ _ _ _ _ _
          rw [List.map_append]; exact ho1
        clear hg1 hg1' hat1 ho1 O1 B1 c1 c2 kv
        go_roundw
        case measure => simp [intOf]; omega
        case rel => exact ⟨_, _, _, _, ⟨k + 1, by omega, by go_num, n + 1, L ++ [y], by simp [hn], by omega, hid (by rw [HL.out, LY.out HX.out]; simp), O4, B4⟩, rfl, rfl, rfl, rfl⟩
      · have HX := hid hx
        go_wp2
        go_roundw
        case measure => simp [intOf]; omega
        case rel => exact ⟨k + 1, n, _, L, by omega, by go_num, rfl, hn, by omega, hid (by rw [HL.out, LN.out HX.out]), O1, B1⟩
    · obtain rfl : k = st.length := by omega
      obtain ⟨a', cap', hv, hr', -⟩ := row_of_owns (show wr.ownsRow w3.heap.size 2 1 u10 n _ from O1.out)
      subst hv
      have hL : L = lessAll d st := by rw [HL.out]; unfold lessAll; rw [less_all H1.out]
      have HR := hid hr'
      have HF := hid (show subAll s0 L = res by rw [hL]; exact HRES.out)
      have BR := hid (bt B3.out B1.out)
      have hL3 : L.length ≤ 1003 := by have := H1.out; omega
      subst hn
      obtain ⟨wl, hwl⟩ : ∃ wl, wl = wr := ⟨_, rfl⟩
      subst hwl
      clear HRES HL hL O1 B1 hr' k14 k15 k16 XD3 B3 HS HV HI hbs hk H1
      obtain ⟨o0, e0⟩ := s0
      go_wp2
      go_loopw [8, 9, 69] (fun s8 s9 i wr => ∃ (k : Nat) (o e : Int), k ≤ L.length ∧ i = .int .i64 k ∧ s8 = .int .i64 o ∧ s9 = .int .i64 e ∧ Hid (subAll (o0, e0) L = subAll (o, e) (L.drop k)) ∧ Aside (Below wl.heap.size wl wr)) (fun _ _ i _ => L.length - (intOf i).toNat)
      case atStart => exact ⟨0, o0, e0, Nat.zero_le _, rfl, rfl, rfl, rfl, Below.refl _ _⟩
      case round =>
        obtain ⟨k, o, e, hk, rfl, rfl, rfl, HE, BQ⟩ := hrel
        by_cases hlt : k < L.length
        · obtain ⟨b, off, rfl, c1⟩ := tint_at (HR.out.kept BQ.out) hlt
          have HD := hid (subAll_drop (s := (o, e)) hlt)
          generalize L[k] = x at *
          by_cases he : e = 0
          · subst he
            have HD2 := hid (show subAll (o, 0) (L.drop k) = subAll (subI o x) (L.drop (k + 1)) from HD.out)
            clear HD
            have KK := hid (sub_any o x wr)
            go_wp2_with fail
            refine KK.out.mono ?_
            rintro e' w5 ⟨rfl, hb5⟩
            go_wp2
            go_roundw
            case measure => simp [intOf]; omega
            case rel => exact ⟨k + 1, (subI o x).1, (subI o x).2, by omega, by go_num, rfl, rfl, hid (HE.out.trans HD2.out), bt BQ.out hb5⟩
          · have q3 : (e == 0) = false := by simpa using he
            have HD2 := hid (show subAll (o, e) (L.drop k) = subAll (o, e) (L.drop (k + 1)) by rw [HD.out]; unfold subStep; rw [if_neg he])
            clear HD
            go_wp2
            go_roundw
            case measure => simp [intOf]; omega
            case rel => exact ⟨k + 1, o, e, by omega, by go_num, rfl, rfl, hid (HE.out.trans HD2.out), BQ⟩
        · obtain rfl : k = L.length := by omega
          have HZ := hid (show res = (o, e) by rw [← HF.out, HE.out, List.drop_length]; rfl)
          go_wp2
          go_ret2
          refine ⟨?_, bt BR.out BQ.out⟩
          rw [HZ.out]
          rfl
theorem balance_anyV (d : TDocV) (D : TDocA) (st : List Int) (sa : Option Addr) (sn sc : Nat) (pa : Option Addr) (pl pc : Nat) (w : World) (hn : st.length = sn) (hs : Row w sa (st.map (.int .u8))) (hd : Row w D.va (d.vals.map (.int .i64)))
    (ls : st.length ≤ 1000) (lv : d.vals.length ≤ 1000) (lp : pl ≤ 1000) :
    Calls Tryz.prog 16 #[tdocAgg d D, .slice sa sn sc, .slice pa pl pc] w fun e w' => e = .returned (.tuple #[.int .i64 (balI d st pl).1, .int .i64 (balI d st pl).2]) ∧ Below w.heap.size w w' := by
  subst hn
  unfold balI
  by_cases hb : balOk d st pl
  · rw [if_pos hb]; exact balance_yes d D st sa sc pa pl pc w hs hd lv hb
  · rw [if_neg hb]; exact balance_no d D st sa sc pa pl pc w hs ls lv lp hb
end Go.Proofs.YtifapcpcemigdaaGreat
end
section
namespace Go.Proofs.YtifapcpcemigdaaGreat
open Go.RowKit Go.Lib Go.Tk Go.Shelf Go.Vc Go.Sx
def toT (d : DocV) : TDocV := ⟨d.t.c, d.t.r, d.s, d.vals, d.frm.c, d.frm.r, d.dst.c, d.dst.r, d.credit, d.paid, d.back, d.kept, d.left⟩
def TBalF : Nat := 16
end Go.Proofs.YtifapcpcemigdaaGreat
end
section
namespace Go.Proofs.YtifapcpcemigdaaGreat
open Go.RowKit Go.Lib Go.Tk Go.Shelf Go.Vc Go.Sx
theorem subAll_dn : ∀ (l : List Int) (x : Int), (∀ y ∈ l, 0 ≤ y) → l.sum ≤ x → x ≤ 1125899906842624 → subAll (x, 0) l = (x - l.sum, 0)
  | [], x, _, _, _ => by simp [subAll]
  | a :: l, x, h, hs, hx => by
    have ha := h a (by simp)
    have hl : ∀ y ∈ l, 0 ≤ y := fun y hy => h y (by simp [hy])
    have hn := sum_nonneg l hl
    rw [List.sum_cons] at hs
    have e : subStep (x, 0) a = (x - a, 0) := by
      unfold subStep subI
      have m1 : mayI x = true := by simp [mayI]; omega
      have m2 : mayI a = true := by simp [mayI]; omega
      have m3 : mayI (x - a) = true := by simp [mayI]; omega
      simp [m1, m2, m3]
    show subAll (subStep (x, 0) a) l = _
    rw [e, subAll_dn l (x - a) hl (by omega) (by omega), List.sum_cons]
    congr 1
    omega
theorem less_op : ∀ L : List OwnV, (lessL (L.map (·.k.v)) (L.map (·.k.s))).sum = opL L
  | [] => rfl
  | o :: L => by
    have ih := less_op L
    unfold lessL lessZ opL at ih ⊢
    rw [List.map_cons, List.map_cons, List.zip_cons_cons]
    by_cases h : o.k.s ≤ 4
    · rw [List.filter_cons_of_pos (by simp [h]), List.filter_cons_of_pos (by simp [h]), List.map_cons, List.map_cons, List.sum_cons, List.sum_cons, ih]
    · rw [List.filter_cons_of_neg (by simp [h]), List.filter_cons_of_neg (by simp [h]), ih]
theorem bal_val {d : DocV} {L : List OwnV} (h : DocI d L) (hb : d.paid + d.credit ≤ 1125899906842624) (h0 : 0 ≤ mD d L + d.credit) : balI (toT d) (L.map (·.k.s)) L.length = (mD d L + d.credit, 0) := by
  have hp := h.paid
  have hk := h.kept
  have hbk := h.back
  have hl := h.left
  have hlc := h.leftc
  have hv : (toT d).vals = L.map (·.k.v) := h.vals.symm
  have hok : balOk (toT d) (L.map (·.k.s)) L.length := by
    refine ⟨by rw [hv]; simp, by rw [hv]; simp, ?_⟩
    unfold badSt
    rw [List.any_eq_false]
    intro x hx
    obtain ⟨o, ho, rfl⟩ := List.mem_map.1 hx
    have := h.st o ho
    have e : stB o.k.s = true := by simp [stB]; omega
    rw [e]; decide
  unfold balI
  rw [if_pos hok]
  have e : sumFrom 0 [(toT d).paid, (toT d).cred] = (d.paid + d.credit, 0) := by
    rw [sumFrom_nn _ 0 (by decide) (by omega) (fun x hx => ?_)]
    · have : mayI (0 + [(toT d).paid, (toT d).cred].sum) = true := by simp [mayI, toT]; omega
      rw [if_pos this]
      simp [toT]
    · simp only [List.mem_cons, List.not_mem_nil, or_false] at hx
      rcases hx with rfl | rfl
      · exact hp
      · show 0 ≤ d.credit
        omega
  have hm : mD d L = d.paid - d.back - d.kept - d.left - opL L := rfl
  have hs : (lessAll (toT d) (L.map (·.k.s))).sum = d.back + d.kept + d.left + opL L := by
    unfold lessAll
    rw [hv, List.sum_append, less_op]
    simp [toT]; omega
  rw [e, subAll_dn, hs]
  · congr 1; omega
  · intro y hy
    unfold lessAll at hy
    rw [List.mem_append] at hy
    rcases hy with hy | hy
    · simp only [List.mem_cons, List.not_mem_nil, or_false] at hy
      rcases hy with rfl | rfl | rfl
      · exact hbk
      · exact hk
      · exact hl
    · have := mem_less hy
      rw [hv, h.vals] at this
      exact h.nn y this
  · rw [hs]; omega
  · exact hb
structure DocG (B : BookV) (d : DocV) (w : Int) : Prop where
  bal : balI (toT d) (statusL B d.t) (statusL B d.t).length = (w, 0)
  paid : 0 ≤ d.paid ∧ d.paid ≤ 35184372088832
  back : 0 ≤ d.back ∧ d.back ≤ 35184372088832
  kept : 0 ≤ d.kept ∧ d.kept ≤ 35184372088832
  left : 0 ≤ d.left ∧ d.left ≤ 35184372088832
  op : 0 ≤ opL (coupL B d.t) ∧ opL (coupL B d.t) ≤ 35184372088832
  leftc : d.left ≤ d.credit
  vals : (coupL B d.t).map (·.k.v) = d.vals
theorem docG_of {B : BookV} (h : EB B) {d : DocV} (hd : d ∈ B.docs) {w : Int} (e : mD d (coupL B d.t) + d.credit = w) (hw : 0 ≤ w) : DocG B d w := by
  have hi := h.ei.doc d hd
  have hr := doc_r h.ex.bk hd
  have hm := h.ex.bk.many
  have hb := hi.bnd
  have h32 : 1099511627776 * d.t.r ≤ 35184372088832 := by omega
  have := hi.paid
  have := hi.back
  have := hi.kept
  have := hi.left
  have hlc := hi.leftc
  have hop := opL_nn hi
  have hmd : mD d (coupL B d.t) = d.paid - d.back - d.kept - d.left - opL (coupL B d.t) := rfl
  refine ⟨?_, by omega, by omega, by omega, by omega, by omega, hlc, hi.vals⟩
  have := bal_val hi (by omega) (by omega)
  rw [e] at this
  unfold statusL
  rw [List.length_map]
  exact this
theorem EB.non {B : BookV} (h : EB B) {d : DocV} (hd : d ∈ B.docs) (h0 : d.dst = tid0) : DocG B d 0 := docG_of h hd (h.ei.non d hd h0) (Int.le_refl _)
theorem lkD_mem_eq {ds : List DocV} (hn : (ds.map (·.t)).Nodup) {n : DocV} (h : n ∈ ds) : lkD ds n.t = some n := by
  obtain ⟨x, hx⟩ := lkD_some (List.mem_map_of_mem (f := fun d : DocV => d.t) h)
  obtain ⟨h1, h2⟩ := lkD_mem hx
  rw [hx, nodup_eq hn h1 h h2]
theorem EB.lnk {B : BookV} (h : EB B) {d : DocV} (hd : d ∈ B.docs) (h0 : d.dst ≠ tid0) : ∃ n, lkD B.docs d.dst = some n ∧ n.frm = d.t ∧ 0 ≤ n.credit ∧ DocG B d n.credit := by
  obtain ⟨n, hn, e1, e2, e3⟩ := h.ei.lnk d hd h0
  have hc : 0 ≤ n.credit := by have := (h.ei.doc n hn).left; have := (h.ei.doc n hn).leftc; omega
  exact ⟨n, by rw [← e1]; exact lkD_mem_eq h.nodup hn, e2, hc, docG_of h hd e3 hc⟩
def paidB (d : DocV) : Int := d.paid - d.back
def restB (B : BookV) (d : DocV) : Int := d.kept + d.left + opL (coupL B d.t)
theorem sum_sub {α : Type} (f g h : α → Int) : ∀ l : List α, (∀ x, h x = f x - g x) → (l.map h).sum = (l.map f).sum - (l.map g).sum
  | [], _ => rfl
  | x :: l, e => by simp only [List.map_cons, List.sum_cons, sum_sub f g h l e, e x]; omega
theorem EB.total {B : BookV} (h : EB B) : (B.docs.map paidB).sum = (B.docs.map (restB B)).sum := by
  have := sum_sub paidB (restB B) (fun d => mD d (coupL B d.t)) B.docs fun d => by unfold mD paidB restB; omega
  rw [h.ei.tot] at this
  omega
end Go.Proofs.YtifapcpcemigdaaGreat
end
section
namespace Go.Proofs.YtifapcpcemigdaaGreat
open Go.RowKit Go.Lib Go.Tk Go.Shelf Go.Vc Go.Sx
structure PG (o : OwnV) : Prop where
  paid : o.paid = decide (o.k.s = 4)
  away : o.away = true → o.k.s ≤ 4
  s : 1 ≤ o.k.s ∧ o.k.s ≤ 7
def PM (B : BookV) : Prop := ∀ k o, lkt B.owns k = some o → PG o
def clO (o : OwnV) : Int × Int := (if o.k.s ≤ 4 then 1 else o.k.s, o.k.v)
theorem next_low {s c : Int} (hu : useB c = true) (h : (nextI s c).2 = 0) : s ≤ 3 ∧ 1 ≤ s ∧ 1 ≤ (nextI s c).1 ∧ (nextI s c).1 ≤ 4 := by
  unfold useB at hu
  rw [Bool.and_eq_true, decide_eq_true_eq, decide_eq_true_eq] at hu
  revert h
  unfold nextI
  cases isB s && cmdB c with
  | false => intro h; simp at h
  | true =>
    cases hv : toI s c with
    | none => intro h; simp at h
    | some v =>
      intro _
      show s ≤ 3 ∧ 1 ≤ s ∧ 1 ≤ v ∧ v ≤ 4
      unfold toI at hv
      repeat' split at hv
      all_goals first | (cases hv; done) | (simp only [Option.some.injEq] at hv; omega)
theorem OSt.pg {y z : OwnV} (h : OSt y z) (g : PG y) : PG z ∧ clO z = clO y := by
  cases h with
  | asked b => exact ⟨⟨g.paid, g.away, g.s⟩, rfl⟩
  | give c h1 h2 h3 => exact ⟨⟨g.paid, fun _ => by show y.k.s ≤ 4; omega, g.s⟩, rfl⟩
  | back h1 => exact ⟨⟨g.paid, fun e => (by cases e), g.s⟩, rfl⟩
  | use cmd h0 h1 h2 =>
    obtain ⟨a1, a2, a3, a4⟩ := next_low h0 h2
    have hp : y.paid = false := by rw [g.paid]; exact decide_eq_false (by omega)
    refine ⟨⟨?_, fun e => ?_, ⟨a3, by show (nextI y.k.s cmd).1 ≤ 7; omega⟩⟩, ?_⟩
    · show (y.paid || decide ((nextI y.k.s cmd).1 = 4)) = decide ((nextI y.k.s cmd).1 = 4)
      rw [hp]; rfl
    · have e : y.away = true := e
      rw [h1] at e; cases e
    · show (if (nextI y.k.s cmd).1 ≤ 4 then 1 else (nextI y.k.s cmd).1, y.k.v) = (if y.k.s ≤ 4 then 1 else y.k.s, y.k.v)
      rw [if_pos a4, if_pos (by omega)]
  | pay h1 h2 =>
    have := g.away h1
    refine ⟨⟨rfl, fun _ => (by show (4 : Int) ≤ 4; decide), by show (1 : Int) ≤ 4 ∧ (4 : Int) ≤ 7; decide⟩, ?_⟩
    show (if (4 : Int) ≤ 4 then 1 else 4, y.k.v) = (if y.k.s ≤ 4 then 1 else y.k.s, y.k.v)
    rw [if_pos (by decide), if_pos this]
theorem selL_map {α : Type} {f : OwnV → α} {a b c d a' b' c' d' : Option OwnV} (h0 : a'.map f = a.map f) (h1 : b'.map f = b.map f) (h2 : c'.map f = c.map f) (h3 : d'.map f = d.map f) : (selL a' b' c' d').map f = (selL a b c d).map f := by
  cases a' <;> cases a <;> simp only [Option.map_none, Option.map_some, reduceCtorEq, Option.some.injEq] at h0
  · rfl
  cases b' <;> cases b <;> simp only [Option.map_none, Option.map_some, reduceCtorEq, Option.some.injEq] at h1
  · exact congrArg (fun x => [x]) h0
  cases c' <;> cases c <;> simp only [Option.map_none, Option.map_some, reduceCtorEq, Option.some.injEq] at h2
  · show [f _, f _] = [f _, f _]
    rw [h0, h1]
  cases d' <;> cases d <;> simp only [Option.map_none, Option.map_some, reduceCtorEq, Option.some.injEq] at h3
  · show [f _, f _, f _] = [f _, f _, f _]
    rw [h0, h1, h2]
  · show [f _, f _, f _, f _] = [f _, f _, f _, f _]
    rw [h0, h1, h2, h3]
theorem opL_cl : ∀ {L M : List OwnV}, L.map clO = M.map clO → opL L = opL M
  | [], [], _ => rfl
  | [], _ :: _, h => by simp at h
  | _ :: _, [], h => by simp at h
  | a :: L, b :: M, h => by
    rw [List.map_cons, List.map_cons] at h
    injection h with h1 h2
    unfold clO at h1
    injection h1 with hs hv
    have ih := opL_cl h2
    unfold opL at ih ⊢
    by_cases h4 : a.k.s ≤ 4
    · have h5 : b.k.s ≤ 4 := by
        rw [if_pos h4] at hs
        by_cases q : b.k.s ≤ 4
        · exact q
        · rw [if_neg q] at hs; omega
      rw [List.filter_cons_of_pos (by simp [h4]), List.filter_cons_of_pos (by simp [h5]), List.map_cons, List.map_cons, List.sum_cons, List.sum_cons, ih, hv]
    · have h5 : ¬ b.k.s ≤ 4 := fun q => by rw [if_neg h4, if_pos q] at hs; omega
      rw [List.filter_cons_of_neg (by simp [h4]), List.filter_cons_of_neg (by simp [h5]), ih]
theorem DocI.cl {d : DocV} {L M : List OwnV} (h : DocI d L) (e : M.map clO = L.map clO) (hs : ∀ o ∈ M, 1 ≤ o.k.s ∧ o.k.s ≤ 7) : DocI d M := by
  have e1 : M.map (·.k.v) = L.map (·.k.v) := by
    have := congrArg (List.map Prod.snd) e
    rw [List.map_map, List.map_map] at this
    exact this
  exact ⟨e1.trans h.vals, hs, h.nn, h.sum, h.pen, h.paid, h.back, h.kept, h.left, h.leftc, h.frm, h.bnd⟩
theorem EI.cl {ds : List DocV} {c c' : Tid → List OwnV} (h : EI ds c) (e : ∀ t, (c' t).map clO = (c t).map clO) (hs : ∀ t, ∀ o ∈ c' t, 1 ≤ o.k.s ∧ o.k.s ≤ 7) : EI ds c' := by
  have em : ∀ d, mD d (c' d.t) = mD d (c d.t) := fun d => by unfold mD; rw [opL_cl (e d.t)]
  refine ⟨fun d hd => (h.doc d hd).cl (e d.t) (hs d.t), fun d hd h0 => by rw [em]; exact h.non d hd h0, fun d hd h0 => by rw [em]; exact h.lnk d hd h0, ?_⟩
  rw [show (fun d => mD d (c' d.t)) = fun d => mD d (c d.t) from funext em]; exact h.tot
theorem coup_mem {B : BookV} {t : Tid} {o : OwnV} (h : o ∈ coupL B t) : ∃ k, lkt B.owns k = some o := by
  rcases coupL_cases B t with ⟨e, -⟩ | ⟨a, e, h0, -⟩ | ⟨a, b, e, h0, h1, -⟩ | ⟨a, b, c, e, h0, h1, h2, -⟩ | ⟨a, b, c, x, e, h0, h1, h2, h3⟩ <;> rw [e] at h <;> simp only [List.mem_cons, List.not_mem_nil, or_false] at h
  · subst h; exact ⟨_, h0⟩
  · rcases h with rfl | rfl
    · exact ⟨_, h0⟩
    · exact ⟨_, h1⟩
  · rcases h with rfl | rfl | rfl
    · exact ⟨_, h0⟩
    · exact ⟨_, h1⟩
    · exact ⟨_, h2⟩
  · rcases h with rfl | rfl | rfl | rfl
    · exact ⟨_, h0⟩
    · exact ⟨_, h1⟩
    · exact ⟨_, h2⟩
    · exact ⟨_, h3⟩
structure OM (B : BookV) : Prop where
  eb : EB B
  pm : PM B
theorem OM.setO {B : BookV} (h : OM B) {k : Kid} {y z : OwnV} (hk : lkt B.owns k = some y) (hs : OSt y z) : OM (B.setO k z) := by
  obtain ⟨e1, e2, e3, e4⟩ := setO_same B k z
  obtain ⟨gz, ec⟩ := hs.pg (h.pm k y hk)
  have pm : PM (B.setO k z) := fun k' o ho => by
    rw [setO_lk] at ho
    by_cases q : k = k'
    · rw [if_pos q, hk] at ho; cases ho; exact gz
    · rw [if_neg q] at ho; exact h.pm k' o ho
  refine ⟨⟨h.eb.ex.setO (by have := h.eb.ex.own k y hk; unfold OwnOk at this ⊢; rw [hs.v]; exact this), h.eb.ks.setO k z, ?_⟩, pm⟩
  rw [e1]
  refine h.eb.ei.cl (fun t => ?_) fun t o ho => ?_
  · have key : ∀ i : Int, (lkt (B.setO k z).owns ⟨t, i⟩).map clO = (lkt B.owns ⟨t, i⟩).map clO := fun i => by
      rw [setO_lk]
      by_cases q : k = ⟨t, i⟩
      · rw [if_pos q, ← q, hk]
        show some (clO z) = some (clO y)
        rw [ec]
      · rw [if_neg q]
    rw [coupL_sel, coupL_sel]
    exact selL_map (key 0) (key 1) (key 2) (key 3)
  · obtain ⟨k', hk'⟩ := coup_mem ho
    exact (pm k' o hk').s
theorem Mv.om {B C : BookV} (h : Mv B C) (g : OM B) : OM C := by
  cases h with
  | refl => exact g
  | own k y z hk hs => exact g.setO hk hs
  | held k x hx =>
    obtain ⟨e1, e2, e3, e4⟩ := setH_same B k x
    refine ⟨⟨g.eb.ex.setH k x, by unfold KeysIn; rw [e1, e4]; exact g.eb.ks, ?_⟩, by unfold PM; rw [e4]; exact g.pm⟩
    rw [e1]
    have e : coupL (B.setH k x) = coupL B := funext fun t => by rw [coupL_sel, coupL_sel, e4]
    rw [e]; exact g.eb.ei
theorem MvR.om {B : BookV} {q : HR} (h : MvR B q) (g : OM B) : OM q.b := by
  obtain ⟨D, h1, h2⟩ := h.mv
  exact h2.om (h1.om g)
theorem PM.turn {B : BookV} (g : PM B) (t : Tid) {s : Int} (hs : 5 ≤ s ∧ s ≤ 7) : PM (turnB B t s) := fun k o ho => by
  rcases turnB_lk B t s k with h | ⟨y, h1, h2⟩
  · rw [h] at ho; exact g k o ho
  · rw [h2] at ho
    cases ho
    have := g k y h1
    unfold turnO
    cases hf : freeO y
    · exact this
    · have h1 := freeO_s hf
      have hp : y.paid = false := by rw [this.paid, h1]; rfl
      have ha : y.away = false := by
        unfold freeO at hf
        rw [Bool.and_eq_true, Bool.not_eq_true'] at hf
        exact hf.1
      refine ⟨?_, fun e => ?_, ⟨by show 1 ≤ s; omega, hs.2⟩⟩
      · show y.paid = decide (s = 4)
        rw [hp, decide_eq_false (by omega)]
      · have e : y.away = true := e
        rw [ha] at e; cases e
theorem PM.issued {B : BookV} (g : PM B) (s : SaleV) : PM (B.issued s) := fun k o ho => by
  have ho : lkt (issO B.nextT s (shareV s.fare (wsOf s)) B.owns (shareV s.fare (wsOf s)).length) k = some o := ho
  rcases issO_lk B.nextT s (shareV s.fare (wsOf s)) B.owns k (shareV s.fare (wsOf s)).length with ⟨j, hj, -, h⟩ | ⟨-, h⟩
  · rw [h] at ho
    cases ho
    exact ⟨rfl, fun e => (by cases e), by show (1 : Int) ≤ 1 ∧ (1 : Int) ≤ 7; decide⟩
  · rw [h] at ho; exact g k o ho
theorem doX_pm {B : BookV} (g : PM B) (x : Act17) : PM (doX B x).b := by
  unfold doX
  by_cases g0 : x.d = 0
  · rw [if_pos g0]
    unfold exIssue
    cases decide (B.issE x.s = 0)
    · exact g
    · exact g.issued x.s
  rw [if_neg g0]
  by_cases g1 : x.d = 1
  · rw [if_pos g1]
    unfold exDisplay
    cases lkD B.docs x.t <;> exact g
  rw [if_neg g1]
  by_cases g2 : x.d = 2
  · rw [if_pos g2]
    unfold exVoid
    cases lkD B.docs x.t with
    | none => exact g
    | some d =>
      show PM (exVoidD B x.t d).b
      unfold exVoidD
      cases voidL (tid0B d.frm) (coupL B x.t)
      · exact g
      · cases decide ((addI d.back d.paid).2 = 0)
        · exact g
        · exact PM.turn (B := B.setD (voidD d)) g x.t (by decide)
  rw [if_neg g2]
  by_cases g3 : x.d = 3
  · rw [if_pos g3]
    unfold exRefund
    cases lkD B.docs x.t with
    | none => exact g
    | some d =>
      show PM (exRefundD B x.t d).b
      unfold exRefundD
      cases noneB B d
      · cases decide (refE B d = 0)
        · exact g
        · exact PM.turn (B := B.setD (refD B d)) g x.t (by decide)
      · exact g
  rw [if_neg g3]
  unfold exExchange
  cases lkD B.docs x.t with
  | none => exact g
  | some d =>
    show PM (exExchangeD B d x.s).b
    unfold exExchangeD
    cases noneB B d || !tid0B d.dst
    · cases decide (exE B d = 0)
      · exact g
      · cases decide (B.issE x.s = 0)
        · exact g
        · exact PM.turn (B := (B.issued x.s).setD (exD1 B d x.s)) (g.issued x.s) d.t (by decide)
    · exact g
theorem tic_om {B : BookV} (g : OM B) {c : CmdO} (ok : SaleOk c.s) (hf : c.s.fare < 1099511627776) : OM (ticQ B c).b := by
  rw [ticQ_eq]
  exact ⟨doX_eb g.eb ok hf, doX_pm g.pm (actO c)⟩
theorem try_om {O : OffV} {n : Nat} (h : OI O n) (g : OM O.b) {r : RecO} (hr : RecG r) (hf : r.cmd.s.fare < 1099511627776) : OM (tryQ O r).o.b := by
  unfold tryQ
  split
  · unfold cmdQ
    split
    · exact g
    split
    · exact tic_om g hr.sal hf
    have m := (coup_mv (B := O.b) (c := r.cmd) hr.t.1).om g
    unfold cmdCQ
    cases decide ((coupQ O.b r.cmd).e = 0) <;> exact m
  split
  · show OM (packQ O r).2.b
    have m := (hearO_m h hr).om g
    unfold packQ
    cases decide (r.src = O.b.self) || decide (O.b.n ≤ r.src)
    · cases decide ((tookQ O.p r).1 = 0)
      · exact g
      · show OM (packHQ (tookQ O.p r).2 (hearO O.b r.src r.m)).2.b
        unfold packHQ
        cases decide ((hearO O.b r.src r.m).e = 0) <;> exact m
    · exact g
  split <;> exact g
theorem step_om {O : OffV} {n : Nat} (h : OI O n) (g : OM O.b) {r : RecO} (hr : RecG r) (hf : r.cmd.s.fare < 1099511627776) : OM (stepO O r).b := by
  unfold stepO
  cases decide ((tryQ O r).e = 0)
  · exact g
  · exact try_om h g hr hf
theorem new_om {self n : Int} (hs : 0 ≤ self ∧ self ≤ 255) (h : bookE self n = 0) : OM (offNew self n).b := ⟨new_eb self n (bookE_ok hs.1 h), fun k o e => (by cases e)⟩
end Go.Proofs.YtifapcpcemigdaaGreat
end
section
namespace Go.Proofs.YtifapcpcemigdaaGreat
open Go.RowKit Go.Lib Go.Tk Go.Shelf Go.Vc Go.Sx
theorem load_openG3 {P : Program} {t k j : Nat} {F : Nat → Value → Chunk} {a : Option Addr} {xs : List Value} {cs : List SV} {u : SV} (q1 q2 q3 : Nat) (hu : Go.Sx.partAt P t cs (q1 + q2 + q3) = some u) (hR : ∀ b v, Rd (F b v) a xs) (hc : ∀ ε i v, cs[i]? = some v → xs[k + i]? = some (v.den ε)) (h0 : 0 < xs.length) :
    OpG P (isLoad t) loadX [.val (.pointer (some (((((a.getD ⟨0, 0, none⟩).add k).add q1).add q2).add q3)))] [((0, j), .fam F)] [] u [] := by
  have := load_openG (j := j) (q1 + q2 + q3) hu hR hc h0
  have e : ∀ x : Addr, ((x.add q1).add q2).add q3 = x.add (q1 + q2 + q3) := fun x => by
    by_cases hk : q1 = 0 <;> by_cases hj : q2 = 0 <;> by_cases hl : q3 = 0 <;> simp [Addr.add, hk, hj, hl, Nat.add_assoc]
  rw [e]
  exact this
end Go.Proofs.YtifapcpcemigdaaGreat
end
section
namespace Go.Proofs.YtifapcpcemigdaaGreat
open Go.RowKit Go.Lib Go.Tk Go.Shelf Go.Vc Go.Sx
def boolC (bl : List Bool) : SC := .row 4 1 bl.length (.shal (bl.map (.bool ·))) []
theorem tbal_s {d : DocV} {st : List Int} {bl : List Bool} (hn : bl.length = st.length) (h1 : st.length ≤ 1000) (h2 : d.vals.length ≤ 1000) :
    CallOK Tryz.prog TBalF [docRaw d, .raw 0 13, .raw 0 14] (docI d ++ [((0, 13), stC st), ((0, 14), boolC bl)]) [] (.tup [.val (.int .i64 (balI (toT d) st st.length).1), eN (balI (toT d) st st.length).2]) [] := by
  intro ε R w hM
  have hM : Mem (rowC 43 3 (asSl (ε 0 10).2) d.s.legs.length (cellsL encLeg d.s.legs) :: rowC 154 2 (asSl (ε 0 11).2) d.s.taxes.length (cellsL encTax d.s.taxes) :: rowC 2 1 (asSl (ε 0 12).2) d.vals.length (d.vals.map (.int .i64)) :: rowC 44 1 (asSl (ε 0 13).2) st.length (st.map (.int .u8)) :: rowC 4 1 (asSl (ε 0 14).2) bl.length (bl.map (.bool ·)) :: R) w := hM
  obtain ⟨la, lc, hvl, okl⟩ := row_sl (hM.owns 0 rfl)
  obtain ⟨ta, tc, hvt, okt⟩ := row_sl (hM.owns 1 rfl)
  obtain ⟨va, vc, hvv, okv⟩ := row_sl (hM.owns 2 rfl)
  obtain ⟨sa, sc, hvs, oks⟩ := row_sl (hM.owns 3 rfl)
  obtain ⟨pa, pc, hvp, okp⟩ := row_sl (hM.owns 4 rfl)
  have hA : (SV.dens ε [docRaw d, .raw 0 13, .raw 0 14]).toArray = #[tdocAgg (toT d) ⟨⟨la, lc, ta, tc⟩, va, vc⟩, .slice sa st.length sc, .slice pa bl.length pc] := by
    simp only [SV.dens, SV.den, docRaw, docS, hvl, hvt, hvv, hvs, hvp]; rfl
  rw [hA]
  have hM2 := hM
  rw [hvv, hvs] at hM2
  have rs : Row w sa (st.map (.int .u8)) := rd_row.row hM2 3 rfl
  have rv : Row w va (d.vals.map (.int .i64)) := rd_row.row hM2 2 rfl
  rw [hn]
  refine (balance_anyV (toT d) ⟨⟨la, lc, ta, tc⟩, va, vc⟩ st sa st.length sc pa st.length pc w rfl rs rv h1 h2 (by omega)).mono ?_
  rintro e w' ⟨rfl, hb⟩
  exact ⟨ε 1, rfl, by rw [eset_self]; exact hM.kept hb⟩
def MoneyF20 : Nat := 3
def moSl (a : Option Addr) (n cap i : Nat) : Slots := [(2, .val (.slice a n cap)), (7, .ptr 1 0 0), (9, .val (.int .i64 (i : Int)))]
def moSl2 (k : Nat) : Slots := [(13, .ptr 1 6 0), (14, .raw 1 5), (15, .val (.int .i64 (k : Int)))]
def moH2 (F : CF) (O : OffV) : Heap := puH F O ++ [((1, 6), .fam (bookF O.b)), ((1, 5), tidR (O.b.docs.map (·.t)))]
def moDoc (d : DocV) : Heap := [((1, 7), .box none (docS d (.raw 1 10) (.raw 1 11) (.raw 1 12))), ((1, 10), legR d.s.legs.length d.s.legs), ((1, 11), taxR d.s.taxes.length d.s.taxes), ((1, 12), i64R d.vals.length d.vals)]
def moSl3 : Slots := [(16, .ptr 1 7 0), (17, eN 0), (18, .raw 1 13)]
section
variable (F : CF) {a : Option Addr} {n cap i : Nat} {O : OffV} {m : Nat} (eO : OI O m) (g : OM O.b) {k : Nat} {d : DocV} (hk : O.b.docs[k]? = some d) (hk32 : k ≤ 1000) {eb : Env} {R : List Chunk} {J J2 : Act → World → Prop}
  (hJ2 : ∀ ε a' w, Rel (ntOf Tryz.prog MoneyF20) 1 eb R ⟨moSl a n cap i ++ moSl2 (k + 1), moH2 F O, 2⟩ ε a' w → J2 a' w)
include eO g hk hk32 hJ2
theorem mo_29 {bl : List Bool} (hb : bl.length = (statusL O.b d.t).length) : Go Tryz.prog MoneyF20 (.val (.bool true)) ([((0, 9), .fam F)] ++ []) eb R .nrm (rgK Tryz.prog MoneyF20 29 [J, J2]) (moSl a n cap i ++ moSl2 k ++ moSl3 ++ [(19, .raw 1 14)]) (moH2 F O ++ moDoc d ++ [((1, 13), stC (statusL O.b d.t)), ((1, 14), boolC bl)]) := by
  have hd := List.mem_of_getElem? hk
  have hl := statusL_len O.b d.t
  have hv := (g.eb.ei.doc d hd).vals
  have c2 := tbal_s (d := d) hb (by omega) (by rw [← hv, List.length_map]; have := coupL_len O.b d.t; omega)
  have z9 : IntKind.i64.wrap ((k : Int) + 1) = ((k + 1 : Nat) : Int) := by rw [wr_i64 (by omega)]; omega
  rcases Bool.eq_false_or_eq_true (tid0B d.dst) with e | e
  · rw [(g.eb.non hd (tid0_eq e)).bal] at c2
    have e1 : (!(decide (d.dst.c = 0) && (decide (d.dst.r = 0) && true))) = false := by
      show (!tid0B d.dst) = false
      rw [e]; rfl
    generalize statusL O.b d.t = st at *
    exact leaf_round (lpK Tryz.prog MoneyF20 1 [J]) false 400 [hC 29 3 c2, hB 31 3 _ _ e1, hI 18 1 IntKind.i64 _ _ z9] hJ2 (by kernel_rfl)
  · obtain ⟨x, hx, -, -, gx⟩ := g.eb.lnk hd (tid0_ne e)
    rw [gx.bal] at c2
    have hxm := (lkD_mem hx).1
    have c3 := doc_ok (B := O.b) (tid_docs eO.bk.bi.ex.bk hd) (lkD_mem_eq g.eb.nodup hd) (eO.bk.bi.ex.sm d hd)
    have ht : TidOk d.dst := by rw [← (lkD_mem hx).2]; exact tid_docs eO.bk.bi.ex.bk hxm
    have c4 := doc_ok (B := O.b) ht hx (eO.bk.bi.ex.sm x hxm)
    have e1 : (!(decide (d.dst.c = 0) && (decide (d.dst.r = 0) && true))) = true := by
      show (!tid0B d.dst) = true
      rw [e]; rfl
    have e2 : (!decide (x.credit = x.credit)) = false := by simp
    clear c3
    generalize statusL O.b d.t = st at *
    exact leaf_round (lpK Tryz.prog MoneyF20 1 [J]) false 400 [hC 29 3 c2, hB 31 3 _ _ e1, hC 32 3 c4, hB 34 5 _ _ e2, hI 18 1 IntKind.i64 _ _ z9] hJ2 (by kernel_rfl)
theorem mo_21 : Go Tryz.prog MoneyF20 (.val (.bool true)) ([((0, 9), .fam F)] ++ []) eb R .nrm (rgK Tryz.prog MoneyF20 21 [J, J2]) (moSl a n cap i ++ moSl2 k ++ moSl3) (moH2 F O ++ moDoc d ++ [((1, 13), stC (statusL O.b d.t))]) := by
  have fin := fun bl hb => mo_29 F eO g hk hk32 hJ2 (J := J) (bl := bl) hb
  have hd := List.mem_of_getElem? hk
  have ht := tid_docs eO.bk.bi.ex.bk hd
  have q1 := load_eltG (P := Tryz.prog) (t := 35) (cs := tidS d.t) (n := (O.b.docs.map (·.t)).length) (p := 0) (j := 0) (b := k * 2) (E := 35) (size := 2) (u := .agg (tidS d.t)) (by kernel_rfl) (tid_nth (tids_get hk))
  have hkl : k < (O.b.docs.map (·.t)).length := by rw [List.length_map]; exact (List.getElem?_eq_some_iff.1 hk).1
  have pg := fun k o (h : lkt O.b.owns k = some o) => (g.pm k o h).paid
  have own := fun i (hi : 0 ≤ i ∧ i ≤ 255) => own_c O.b (k := ⟨d.t, i⟩) ⟨ht, hi⟩
  have yy : ∀ o : OwnV, o.paid = decide (o.k.s = 4) → (!(o.paid == decide (o.k.s = 4))) = false := fun o h => by rw [h]; simp
  clear hJ2
  unfold statusL at fin ⊢
  rcases coupL_cases O.b d.t with ⟨e, -⟩ | ⟨o0, e, h0, -⟩ | ⟨o0, o1, e, h0, h1, -⟩ | ⟨o0, o1, o2, e, h0, h1, h2, -⟩ | ⟨o0, o1, o2, o3, e, h0, h1, h2, h3⟩ <;> rw [e] at fin ⊢
  · refine go_open (X := Unit) (fun _ => moH2 F O ++ moDoc d ++ [((1, 13), stD [])]) (fun ε w hM => ⟨(), hM⟩) (fun _ => by kernel_rfl) fun _ => ?_
    refine leaf_cut (rgK Tryz.prog MoneyF20 29 [J, J2]) (moSl a n cap i ++ moSl2 k ++ moSl3 ++ [(19, .raw 1 14)]) (moH2 F O ++ moDoc d ++ [((1, 13), stD []), ((1, 14), .row 4 1 0 (.deep []) [])]) calNone true 400 [.stop 29] calNone_ok (by kernel_rfl) ?_
    exact go_open (X := Unit) (fun _ => moH2 F O ++ moDoc d ++ [((1, 13), stC (([] : List OwnV).map (·.k.s))), ((1, 14), boolC [])]) (fun ε w hM => ⟨(), hM⟩) (fun _ => by kernel_rfl) fun _ => fin [] rfl
  · have y0 := yy _ (pg _ _ h0)
    have c0 := own 0 (by decide)
    rw [h0] at c0
    refine go_open (X := Unit) (fun _ => moH2 F O ++ moDoc d ++ [((1, 13), stD [o0.k.s])]) (fun ε w hM => ⟨(), hM⟩) (fun _ => by kernel_rfl) fun _ => ?_
    refine leaf_cut (rgK Tryz.prog MoneyF20 29 [J, J2]) (moSl a n cap i ++ moSl2 k ++ moSl3 ++ [(19, .raw 1 14)]) (moH2 F O ++ moDoc d ++ [((1, 13), stD [o0.k.s]), ((1, 14), .row 4 1 1 (.deep [.val (.bool o0.paid)]) [])]) calNone true 400 [.opt 25 3 (.at_ 0 _ _ _ ⟨rfl, hkl⟩), hG 25 4 q1, hC 25 8 c0, hB 27 7 _ _ y0, .stop 29] calNone_ok (by kernel_rfl) ?_
    exact go_open (X := Unit) (fun _ => moH2 F O ++ moDoc d ++ [((1, 13), stC (([o0] : List OwnV).map (·.k.s))), ((1, 14), boolC [o0.paid])]) (fun ε w hM => ⟨(), hM⟩) (fun _ => by kernel_rfl) fun _ => fin [o0.paid] rfl
  · have y0 := yy _ (pg _ _ h0)
    have c0 := own 0 (by decide)
    rw [h0] at c0
    have y1 := yy _ (pg _ _ h1)
    have c1 := own 1 (by decide)
    rw [h1] at c1
    refine go_open (X := Unit) (fun _ => moH2 F O ++ moDoc d ++ [((1, 13), stD [o0.k.s, o1.k.s])]) (fun ε w hM => ⟨(), hM⟩) (fun _ => by kernel_rfl) fun _ => ?_
    refine leaf_cut (rgK Tryz.prog MoneyF20 29 [J, J2]) (moSl a n cap i ++ moSl2 k ++ moSl3 ++ [(19, .raw 1 14)]) (moH2 F O ++ moDoc d ++ [((1, 13), stD [o0.k.s, o1.k.s]), ((1, 14), .row 4 1 2 (.deep [.val (.bool o0.paid), .val (.bool o1.paid)]) [])]) calNone true 400 [.opt 25 3 (.at_ 0 _ _ _ ⟨rfl, hkl⟩), hG 25 4 q1, hC 25 8 c0, hB 27 7 _ _ y0, .opt 25 3 (.at_ 0 _ _ _ ⟨rfl, hkl⟩), hG 25 4 q1, hC 25 8 c1, hB 27 7 _ _ y1, .stop 29] calNone_ok (by kernel_rfl) ?_
    exact go_open (X := Unit) (fun _ => moH2 F O ++ moDoc d ++ [((1, 13), stC (([o0, o1] : List OwnV).map (·.k.s))), ((1, 14), boolC [o0.paid, o1.paid])]) (fun ε w hM => ⟨(), hM⟩) (fun _ => by kernel_rfl) fun _ => fin [o0.paid, o1.paid] rfl
  · have y0 := yy _ (pg _ _ h0)
    have c0 := own 0 (by decide)
    rw [h0] at c0
    have y1 := yy _ (pg _ _ h1)
    have c1 := own 1 (by decide)
    rw [h1] at c1
    have y2 := yy _ (pg _ _ h2)
    have c2 := own 2 (by decide)
    rw [h2] at c2
    refine go_open (X := Unit) (fun _ => moH2 F O ++ moDoc d ++ [((1, 13), stD [o0.k.s, o1.k.s, o2.k.s])]) (fun ε w hM => ⟨(), hM⟩) (fun _ => by kernel_rfl) fun _ => ?_
    refine leaf_cut (rgK Tryz.prog MoneyF20 29 [J, J2]) (moSl a n cap i ++ moSl2 k ++ moSl3 ++ [(19, .raw 1 14)]) (moH2 F O ++ moDoc d ++ [((1, 13), stD [o0.k.s, o1.k.s, o2.k.s]), ((1, 14), .row 4 1 3 (.deep [.val (.bool o0.paid), .val (.bool o1.paid), .val (.bool o2.paid)]) [])]) calNone true 400 [.opt 25 3 (.at_ 0 _ _ _ ⟨rfl, hkl⟩), hG 25 4 q1, hC 25 8 c0, hB 27 7 _ _ y0, .opt 25 3 (.at_ 0 _ _ _ ⟨rfl, hkl⟩), hG 25 4 q1, hC 25 8 c1, hB 27 7 _ _ y1, .opt 25 3 (.at_ 0 _ _ _ ⟨rfl, hkl⟩), hG 25 4 q1, hC 25 8 c2, hB 27 7 _ _ y2, .stop 29] calNone_ok (by kernel_rfl) ?_
    exact go_open (X := Unit) (fun _ => moH2 F O ++ moDoc d ++ [((1, 13), stC (([o0, o1, o2] : List OwnV).map (·.k.s))), ((1, 14), boolC [o0.paid, o1.paid, o2.paid])]) (fun ε w hM => ⟨(), hM⟩) (fun _ => by kernel_rfl) fun _ => fin [o0.paid, o1.paid, o2.paid] rfl
  · have y0 := yy _ (pg _ _ h0)
    have c0 := own 0 (by decide)
    rw [h0] at c0
    have y1 := yy _ (pg _ _ h1)
    have c1 := own 1 (by decide)
    rw [h1] at c1
    have y2 := yy _ (pg _ _ h2)
    have c2 := own 2 (by decide)
    rw [h2] at c2
    have y3 := yy _ (pg _ _ h3)
    have c3 := own 3 (by decide)
    rw [h3] at c3
    refine go_open (X := Unit) (fun _ => moH2 F O ++ moDoc d ++ [((1, 13), stD [o0.k.s, o1.k.s, o2.k.s, o3.k.s])]) (fun ε w hM => ⟨(), hM⟩) (fun _ => by kernel_rfl) fun _ => ?_
    refine leaf_cut (rgK Tryz.prog MoneyF20 29 [J, J2]) (moSl a n cap i ++ moSl2 k ++ moSl3 ++ [(19, .raw 1 14)]) (moH2 F O ++ moDoc d ++ [((1, 13), stD [o0.k.s, o1.k.s, o2.k.s, o3.k.s]), ((1, 14), .row 4 1 4 (.deep [.val (.bool o0.paid), .val (.bool o1.paid), .val (.bool o2.paid), .val (.bool o3.paid)]) [])]) calNone true 400 [.opt 25 3 (.at_ 0 _ _ _ ⟨rfl, hkl⟩), hG 25 4 q1, hC 25 8 c0, hB 27 7 _ _ y0, .opt 25 3 (.at_ 0 _ _ _ ⟨rfl, hkl⟩), hG 25 4 q1, hC 25 8 c1, hB 27 7 _ _ y1, .opt 25 3 (.at_ 0 _ _ _ ⟨rfl, hkl⟩), hG 25 4 q1, hC 25 8 c2, hB 27 7 _ _ y2, .opt 25 3 (.at_ 0 _ _ _ ⟨rfl, hkl⟩), hG 25 4 q1, hC 25 8 c3, hB 27 7 _ _ y3, .stop 29] calNone_ok (by kernel_rfl) ?_
    exact go_open (X := Unit) (fun _ => moH2 F O ++ moDoc d ++ [((1, 13), stC (([o0, o1, o2, o3] : List OwnV).map (·.k.s))), ((1, 14), boolC [o0.paid, o1.paid, o2.paid, o3.paid])]) (fun ε w hM => ⟨(), hM⟩) (fun _ => by kernel_rfl) fun _ => fin [o0.paid, o1.paid, o2.paid, o3.paid] rfl
theorem mo_doc : Go Tryz.prog MoneyF20 (.val (.bool true)) ([((0, 9), .fam F)] ++ []) eb R .nrm (rgK Tryz.prog MoneyF20 19 [J, J2]) (moSl a n cap i ++ moSl2 k) (moH2 F O) := by
  have fin := mo_21 F eO g hk hk32 hJ2 (J := J)
  have hd := List.mem_of_getElem? hk
  have ht := tid_docs eO.bk.bi.ex.bk hd
  have q1 := load_eltG (P := Tryz.prog) (t := 35) (cs := tidS d.t) (n := (O.b.docs.map (·.t)).length) (p := 0) (j := 0) (b := k * 2) (E := 35) (size := 2) (u := .agg (tidS d.t)) (by kernel_rfl) (tid_nth (tids_get hk))
  have hkl : k < (O.b.docs.map (·.t)).length := by rw [List.length_map]; exact (List.getElem?_eq_some_iff.1 hk).1
  have c1 := doc_ok (B := O.b) ht (lkD_mem_eq g.eb.nodup hd) (eO.bk.bi.ex.sm d hd)
  have c2 := status_c O.b ht
  clear hJ2
  exact leaf_cut (rgK Tryz.prog MoneyF20 21 [J, J2]) _ _ calNone false 400 [.opt 19 3 (.at_ 0 _ _ _ ⟨rfl, hkl⟩), hG 19 4 q1, hC 19 5 c1, .opt 20 3 (.at_ 0 _ _ _ ⟨rfl, hkl⟩), hG 20 4 q1, hC 20 5 c2, .stop 21] calNone_ok (by kernel_rfl) fin
end
end Go.Proofs.YtifapcpcemigdaaGreat
end
section
namespace Go.Proofs.YtifapcpcemigdaaGreat
open Go.RowKit Go.Lib Go.Tk Go.Shelf Go.Vc Go.Sx
theorem mo_14 (F : CF) {a : Option Addr} {n cap i : Nat} (hi : i ≤ 1000) {O : OffV} {m : Nat} (eO : OI O m) (g : OM O.b) {eb : Env} {R : List Chunk} {J : Act → World → Prop}
    (hJ : ∀ ε a' w, Rel (ntOf Tryz.prog MoneyF20) 1 eb R ⟨moSl a n cap (i + 1), puH F O, 2⟩ ε a' w → J a' w) :
    Go Tryz.prog MoneyF20 (.val (.bool true)) ([((0, 9), .fam F)] ++ []) eb R .nrm (rgK Tryz.prog MoneyF20 14 [J]) (moSl a n cap i) (puH F O) := by
  have c1 := offBook_w eO.off
  have c2 := tickets_c eO.bk.bi.ex.bk
  have z9 : IntKind.i64.wrap ((i : Int) + 1) = ((i + 1 : Nat) : Int) := by rw [wr_i64 (by omega)]; omega
  have hm := eO.bk.bi.ex.bk.many
  have lB : (O.b.docs.map (·.t)).length = O.b.docs.length := List.length_map _
  have hdoc := fun k d hk h32 J2 h => mo_doc F (a := a) (n := n) (cap := cap) (i := i) eO g (k := k) (d := d) hk h32 (eb := eb) (R := R) (J := J) (J2 := J2) h
  refine go_loop (X := { k : Nat // k ≤ O.b.docs.length }) 1 [J] (fun y => (moSl a n cap i ++ moSl2 y.1, moH2 F O)) (fun y => O.b.docs.length - y.1) ⟨0, Nat.zero_le _⟩ calNone false 400 [hC 14 1 c1, hC 15 1 c2] calNone_ok (by kernel_rfl) ?_
  rintro ⟨k, hk⟩ J2 hJ2
  by_cases h : k < O.b.docs.length
  · have z0 : decide ((k : Int) < ((O.b.docs.map (·.t)).length : Int)) = true := decide_eq_true (by omega)
    have fin := hdoc k _ (List.getElem?_eq_getElem h) (by omega) J2 (hJ2 ⟨k + 1, h⟩ (by show _ - (k + 1) < _ - k; omega))
    clear hJ hJ2 hdoc
    exact leaf_cut (rgK Tryz.prog MoneyF20 19 [J, J2]) _ _ calNone false 400 [hB 17 3 _ _ z0, .stop 19] calNone_ok (by kernel_rfl) fin
  · have he : k = O.b.docs.length := by omega
    subst he
    have z0 : decide ((O.b.docs.length : Int) < ((O.b.docs.map (·.t)).length : Int)) = false := decide_eq_false (by omega)
    clear hdoc hJ2
    exact leaf_round (lpK Tryz.prog MoneyF20 0 []) false 400 [hB 17 3 _ _ z0, hI 8 1 IntKind.i64 _ _ z9] hJ (by kernel_rfl)
theorem mo_act (F : CF) {a : Option Addr} {cap i : Nat} {l : List OrX} (hR : ∀ b v, Rd (F b v) a (cellsL orC l)) (hi : i < l.length) (hl : l.length ≤ 1000) {x : OrX} (hx : l.getD i orZ = x) {O : OffV} {m : Nat} (eO : OI O m) (g : OM O.b) (hm : m < 1000) (hr : OrRd F x) (hf : x.c.cmd.s.fare < 1099511627776)
    {eb : Env} {R : List Chunk} {J : Act → World → Prop} (hJ : ∀ ε a' w, Rel (ntOf Tryz.prog MoneyF20) 1 eb R ⟨moSl a l.length cap (i + 1), puH F (stepO O x.c), 2⟩ ε a' w → J a' w) :
    Go Tryz.prog MoneyF20 (.val (.bool true)) ([((0, 9), .fam F)] ++ []) eb R .nrm (rgK Tryz.prog MoneyF20 11 [J]) (moSl a l.length cap i) (puH F O) := by
  have q1 := idx_openG (P := Tryz.prog) (t := OrT) (e := 50) (size := 25) (j := 9) (k := .i64) (cap := cap) (n := l.length) Tryz.underlying22 (by kernel_rfl) (or_len l) hR hi
  have hpos : 0 < (cellsL orC l).length := by rw [or_len]; omega
  have q2 := load_openG0 (P := Tryz.prog) (t := 50) (k := i * 25) (j := 9) (u := .agg (orX (l.getD i orZ))) (by kernel_rfl) hR (or_nth hi) hpos
  rw [hx] at q2
  have c1 := try_x eO (by omega) hr
  have hoi := try_oi eO (by omega) hr.g
  have hom := try_om eO g hr.g hf
  have z9 : IntKind.i64.wrap ((i : Int) + 1) = ((i + 1 : Nat) : Int) := by rw [wr_i64 (by omega)]; omega
  by_cases he : (tryQ O x.c).e = 0
  · rw [(try_e (O := O) he).1, (try_e (O := O) he).2] at c1
    rw [step_yes he] at hJ
    have fin := mo_14 F (a := a) (n := l.length) (cap := cap) (by omega) hoi hom hJ
    clear hJ hoi hom
    generalize tryQ O x.c = q at c1 fin
    exact leaf_cut (rgK Tryz.prog MoneyF20 14 [J]) _ _ calNone false 400 [hG 11 3 q1, hG 11 4 q2, hC 11 5 c1, .stop 14] calNone_ok (by kernel_rfl) fin
  · rw [(try_n (O := O) he).1, (try_n (O := O) he).2] at c1
    rw [step_no he] at hJ
    have z1 : (!decide ((tryQ O x.c).e = 0)) = true := by simpa using he
    clear hoi hom
    generalize (tryQ O x.c).e = e at c1 z1
    exact leaf_round (lpK Tryz.prog MoneyF20 0 []) false 400 [hG 11 3 q1, hG 11 4 q2, hC 11 5 c1, hB 12 1 _ _ z1, hI 8 1 IntKind.i64 _ _ z9] hJ (by kernel_rfl)
theorem money_law (F : CF) {self n : Int} (hs : 0 ≤ self ∧ self ≤ 255) {a : Option Addr} {cap : Nat} {l : List OrX} (hR : ∀ b v, Rd (F b v) a (cellsL orC l)) (hA : greatB20 l = false → ∀ x ∈ l, OrRd F x) :
    CallOK Tryz.prog MoneyF20 [.val (.int .u8 self), .val (.int .i64 n), .val (.slice a l.length cap)] [((0, 9), .fam F)] [] (.val (.bool true)) [] := by
  have c0 := great20_w F (cap := cap) hR
  have c9 := wakes20_w
  rcases Bool.eq_false_or_eq_true (greatB20 l) with g | g <;> rw [g] at c0
  · exact callOK_run 400 [hC 1 1 c0, hC 2 0 c9] (by kernel_rfl) (by kernel_rfl)
  have hA := hA g
  have hlen := (greatB20_no g).1
  by_cases he : bookE self n = 0
  case neg =>
    have c1 := offNew_no (self := self) (n := n) hs he
    exact callOK_run 400 [hC 1 1 c0, hC 3 2 c1, hC 5 0 c9] (by kernel_rfl) (by kernel_rfl)
  have c1 := offNew_ok (self := self) (n := n) hs he
  have eO := runO_oi (new_oi hs he) hA
  have gO := new_om hs he
  generalize offNew self n = O0 at *
  refine callOK_intro (by kernel_rfl) fun eb R => ?_
  refine go_loop (X := { i : Nat // i ≤ l.length ∧ OM (runO O0 l i).b }) 0 [] (fun x => (moSl a l.length cap x.1, puH F (runO O0 l x.1))) (fun x => l.length - x.1) ⟨0, Nat.zero_le _, gO⟩ calNone false 400 [hC 1 1 c0, hC 3 2 c1] calNone_ok (by kernel_rfl) ?_
  rintro ⟨i, hi, gi⟩ J hJ
  by_cases h : i < l.length
  · have z0 : decide ((i : Int) < (l.length : Int)) = true := decide_eq_true (by omega)
    have hin : l.getD i orZ ∈ l := List.mem_of_getElem? (getD_some h orZ)
    have q1 := idx_openG (P := Tryz.prog) (t := OrT) (e := 50) (size := 25) (j := 9) (k := .i64) (cap := cap) (n := l.length) Tryz.underlying22 (by kernel_rfl) (or_len l) hR h
    have hpos : 0 < (cellsL orC l).length := by rw [or_len]; omega
    have q2 := load_openG3 (P := Tryz.prog) (t := 2) (k := i * 25) (j := 9) (u := .val (.int .i64 (l.getD i orZ).c.cmd.s.fare)) 1 4 2 (by kernel_rfl) hR (or_nth h) hpos
    by_cases hf : (l.getD i orZ).c.cmd.s.fare < 1099511627776
    · have z1 : decide ((1099511627776 : Int) ≤ (l.getD i orZ).c.cmd.s.fare) = false := decide_eq_false (by omega)
      have hr := hA _ hin
      have gn : OM (runO O0 l (i + 1)).b := step_om (eO i (by omega) (by omega)) gi hr.g hf
      have fin := mo_act F (cap := cap) hR h (by omega) rfl (eO i (by omega) (by omega)) gi (by omega) hr hf (eb := eb) (R := R) (J := J) (hJ ⟨i + 1, h, gn⟩ (by show _ - (i + 1) < _ - i; omega))
      clear hJ c0 c1 hA eO
      generalize (l.getD i orZ).c.cmd.s.fare = fare at q2 z1
      exact leaf_cut (rgK Tryz.prog MoneyF20 11 [J]) _ _ calNone false 400 [hB 7 3 _ _ z0, hG 9 2 q1, hG 9 6 q2, hB 9 7 _ _ z1, .stop 11] calNone_ok (by kernel_rfl) fin
    · have z1 : decide ((1099511627776 : Int) ≤ (l.getD i orZ).c.cmd.s.fare) = true := decide_eq_true (by omega)
      clear hJ c0 c1 hA eO
      generalize (l.getD i orZ).c.cmd.s.fare = fare at q2 z1
      exact leaf_end calNone false 400 [hB 7 3 _ _ z0, hG 9 2 q1, hG 9 6 q2, hB 9 7 _ _ z1, hC 10 0 c9] calNone_ok (by kernel_rfl)
  · have z0 : decide ((l.length : Int) < (l.length : Int)) = false := decide_eq_false (by omega)
    have e : i = l.length := by omega
    subst e
    clear hJ c0 c1 hA eO
    exact leaf_end calNone false 400 [hB 7 3 _ _ z0, hC 36 0 c9] calNone_ok (by kernel_rfl)
theorem money_any (self n : Int) (a : Option Addr) (l : List OrX) (c : Nat) (w : World) (ws : (Lit.int .u8 self).wf = true) (_ : (Lit.int .i64 n).wf = true) (hr : Row w a (cellsL orC l)) (_ : a = none → c = 0) (_ : l.length ≤ maxLen) (ok : ∀ x ∈ l, OrIn w x) :
    Calls Tryz.prog MoneyF20 #[.int .u8 self, .int .i64 n, .slice a l.length c] w fun e w' => e = .returned (.bool true) ∧ Below w.heap.size w w' :=
  (money_law (fun _ _ => oldC w) (wfu8 ws) (fun _ _ => rd_old hr) (fun g x hx => orRd_of (ok x hx) (by have := (greatB20_no g).2 x hx; omega) (by have := (greatB20_no g).2 x hx; omega)) (fun _ _ => (0, undef)) [] w (Mem.old w)).mono fun e w' ⟨x, h, hm⟩ => ⟨h, (show Mem (oldC w :: []) w' from hm).below 0 rfl⟩
end Go.Proofs.YtifapcpcemigdaaGreat
end
section
namespace Go.Proofs.YtifapcpcemigdaaGreat.officeMoneyF
open Go
theorem closed : joinedFacts Tryz.pinned.checked.prog 3 Tryz.f3 Rows.officeMoneySpec Rows.officeMoneyRow = true := by kernel_rfl
theorem inst : Tryz.f3.isInstance Tryz.pinned.checked.prog Rows.officeMoneyRow.origin Rows.officeMoneyRow.targs := of_decide_eq_true (by kernel_rfl)
theorem wrap : Tryz.f3.isWrapper Tryz.pinned.checked.prog Rows.officeMoneyRow.wrapper Rows.officeMoneyRow.mainSum := by
  unfold Func.isWrapper
  first | (rw [if_pos (by decide +kernel)]; kernel_rfl) | (rw [if_neg (by decide +kernel)]; exact ⟨rfl, rfl⟩)
end Go.Proofs.YtifapcpcemigdaaGreat.officeMoneyF
end
