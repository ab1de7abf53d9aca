/- OpA, OpB, CeO, Bw, Bs1, Ce31, Ce32, Ce33, Ce34, Ce41, Ce37, BkC1, BkC2, Ce38, Ce39, Tick19, Tb1, Tb2, Tb3, EbP4, Ce42, Ce43, Ce35, Ce36, Ce44, Ce45, FsCentralMoney. -/
import Derived.Test.YtdnaegleifhmgaaGreatM7ce3b18
import Derived.Test.YtdnaegleifhmgaaGreatMd41ca14
import Derived.Test.YtdnaegleifhmgaaGreatM6fdd07c
import Derived.Test.YtdnaegleifhmgaaGreatMabf875a
import Derived.Test.YtdnaegleifhmgaaGreatCe25
import Derived.Test.YtdnaegleifhmgaaGreatMc9ee414
import Derived.Shelf.SlMaps.Clone
import Derived.Test.YtdnaegleifhmgaaGreatM9812743
import Derived.Test.YtdnaegleifhmgaaGreatM3fa2fb6
import Derived.Test.YtdnaegleifhmgaaGreatRows
import Derived.Test.YtdnaegleifhmgaaGreatChecked
import Derived.ProofKit
import Derived.OpenShut
import Derived.ShutString
import Derived.ChangeOld
import Derived.Below
set_option maxRecDepth 100000
set_option linter.unusedVariables false
set_option linter.unusedSimpArgs false
set_option linter.unusedSectionVars false
section
namespace Go.Proofs.YtdnaegleifhmgaaGreat
open Go.RowKit Go.Lib Go.Tk Go.Shelf Go.Vc Go.Sx Go.WideShapes
section
variable {H : Type} {enc : TypeId × Value → H} {w : World} {base : Nat} {spare : Nat → Bool} {held : Bool}
end
end Go.Proofs.YtdnaegleifhmgaaGreat
end
section
namespace Go.Proofs.YtdnaegleifhmgaaGreat
open Go.RowKit Go.Lib Go.Tk Go.Shelf Go.Vc Go.Sx Go.WideShapes
def saleC (s : SaleV) (A : SaleA) : List Value := [.string s.name, .slice A.la s.legs.length A.lc, .int .i64 s.fare, .slice A.ta s.taxes.length A.tc, .int .i64 s.pen]
section
variable {H : Type} {enc : TypeId × Value → H} {w : World} {base : Nat} {spare : Nat → Bool} {held : Bool}
theorem FlatAs.split : ∀ {ts us : List TypeId} {cs : List Value}, FlatAs enc Tryz.prog w base spare held (ts ++ us) cs → ∃ a b, cs = a ++ b ∧ FlatAs enc Tryz.prog w base spare held ts a ∧ FlatAs enc Tryz.prog w base spare held us b
  | [], us, cs, h => ⟨[], cs, rfl, rfl, h⟩
  | t :: ts, us, cs, ⟨v, cs', e, hv, h⟩ => by
    obtain ⟨a, b, h1, ha, hb⟩ := FlatAs.split h
    subst h1
    subst e
    exact ⟨v :: a, b, rfl, ⟨v, a, rfl, hv, ha⟩, hb⟩
theorem sale_of {cs : List Value} (h : FlatAs enc Tryz.prog w base spare held [9, 32, 2, 33, 2] cs) : ∃ s A, saleC s A = cs ∧ SaleAt w s A ∧ SaleW s := by
  obtain ⟨v0, _, rfl, ⟨n0, y0, h0⟩, v1, _, rfl, ⟨n1, y1, h1⟩, v2, _, rfl, ⟨n2, y2, h2⟩, v3, _, rfl, ⟨n3, y3, h3⟩, v4, _, rfl, ⟨n4, y4, h4⟩, rfl⟩ := h
  obtain ⟨a0, e0, w0⟩ := string_cell Tryz.underlying9 h0
  cases e0
  obtain ⟨b1, a1, c1, e1, r1, i1, m1, o1⟩ := legs_cell h1
  cases e1
  obtain ⟨a2, e2, w2⟩ := int_cell Tryz.underlying2 h2
  cases e2
  obtain ⟨b3, a3, c3, e3, r3, i3, m3, o3⟩ := taxes_cell h3
  cases e3
  obtain ⟨a4, e4, w4⟩ := int_cell Tryz.underlying2 h4
  cases e4
  exact ⟨⟨a0, a1, a2, a3, a4⟩, ⟨b1, c1, b3, c3⟩, rfl, ⟨r1, r3, i1, i3⟩, ⟨w0, o1, o3, wfi64 w2, wfi64 w4, m1, m3⟩⟩
end
end Go.Proofs.YtdnaegleifhmgaaGreat
end
section
namespace Go.Proofs.YtdnaegleifhmgaaGreat
open Go.RowKit Go.Lib Go.Tk Go.Shelf Go.Vc Go.Sx Go.WideShapes
structure CmX where
  c : CmtV
  A : SaleA
def cmHeadC (c : CmtV) : List Value := [.int .u8 c.car, .int .u8 c.kind, .int .u8 c.cmd.kind, .int .u8 c.cmd.t.c, .int .u64 c.cmd.t.r, .int .u8 c.cmd.i]
def cmMidC (c : CmtV) : List Value := [.int .i64 c.cmd.amt, .int .u8 c.src, .int .u64 c.num]
def cmC (x : CmX) : List Value := cmHeadC x.c ++ (saleC x.c.cmd.s x.A ++ (cmMidC x.c ++ msL x.c.m))
structure CmIn (w : World) (x : CmX) : Prop where
  at_ : SaleAt w x.c.cmd.s x.A
  ok : SaleW x.c.cmd.s
  car : 0 ≤ x.c.car ∧ x.c.car ≤ 255
  kind : 0 ≤ x.c.kind ∧ x.c.kind ≤ 255
  ck : 0 ≤ x.c.cmd.kind ∧ x.c.cmd.kind ≤ 255
  ct : TidOk x.c.cmd.t
  ci : 0 ≤ x.c.cmd.i ∧ x.c.cmd.i ≤ 255
  src : 0 ≤ x.c.src ∧ x.c.src ≤ 255
  key : KidOk x.c.m.key
section
variable {H : Type} {enc : TypeId × Value → H} {w : World} {base : Nat} {spare : Nat → Bool} {held : Bool}
theorem cmHead_of {cs : List Value} (h : FlatAs enc Tryz.prog w base spare held [5, 5, 5, 5, 29, 5] cs) : ∃ a b c : Int, ∃ t : Tid, ∃ i : Int, [Value.int .u8 a, .int .u8 b, .int .u8 c, .int .u8 t.c, .int .u64 t.r, .int .u8 i] = cs ∧ (0 ≤ a ∧ a ≤ 255) ∧ (0 ≤ b ∧ b ≤ 255) ∧ (0 ≤ c ∧ c ≤ 255) ∧ TidOk t ∧ 0 ≤ i ∧ i ≤ 255 := by
  obtain ⟨v0, _, rfl, ⟨n0, y0, h0⟩, v1, _, rfl, ⟨n1, y1, h1⟩, v2, _, rfl, ⟨n2, y2, h2⟩, v3, _, rfl, ⟨n3, y3, h3⟩, v4, _, rfl, ⟨n4, y4, h4⟩, v5, _, rfl, ⟨n5, y5, h5⟩, rfl⟩ := h
  obtain ⟨a0, e0, w0⟩ := int_cell Tryz.underlying5 h0
  cases e0
  obtain ⟨a1, e1, w1⟩ := int_cell Tryz.underlying5 h1
  cases e1
  obtain ⟨a2, e2, w2⟩ := int_cell Tryz.underlying5 h2
  cases e2
  obtain ⟨a3, e3, w3⟩ := int_cell Tryz.underlying5 h3
  cases e3
  obtain ⟨a4, e4, w4⟩ := int_cell Tryz.underlying29 h4
  cases e4
  obtain ⟨a5, e5, w5⟩ := int_cell Tryz.underlying5 h5
  cases e5
  exact ⟨a0, a1, a2, ⟨a3, a4⟩, a5, rfl, wfu8 w0, wfu8 w1, wfu8 w2, ⟨wfu8 w3, wfu64 w4⟩, wfu8 w5⟩
theorem cmMid_of {cs : List Value} (h : FlatAs enc Tryz.prog w base spare held [2, 5, 29] cs) : ∃ a b c : Int, [Value.int .i64 a, .int .u8 b, .int .u64 c] = cs ∧ 0 ≤ b ∧ b ≤ 255 := by
  obtain ⟨v0, _, rfl, ⟨n0, y0, h0⟩, v1, _, rfl, ⟨n1, y1, h1⟩, v2, _, rfl, ⟨n2, y2, h2⟩, rfl⟩ := h
  obtain ⟨a0, e0, w0⟩ := int_cell Tryz.underlying2 h0
  cases e0
  obtain ⟨a1, e1, w1⟩ := int_cell Tryz.underlying5 h1
  cases e1
  obtain ⟨a2, e2, w2⟩ := int_cell Tryz.underlying29 h2
  cases e2
  exact ⟨a0, a1, a2, rfl, wfu8 w1⟩
theorem cmMsg_of {cs : List Value} (h : FlatAs enc Tryz.prog w base spare held [5, 5, 29, 5, 5, 40, 41, 2, 44, 41, 2, 26] cs) : ∃ m : MsV, msL m = cs ∧ KidOk m.key := by
  obtain ⟨v0, _, rfl, ⟨n0, y0, h0⟩, v1, _, rfl, ⟨n1, y1, h1⟩, v2, _, rfl, ⟨n2, y2, h2⟩, v3, _, rfl, ⟨n3, y3, h3⟩, v4, _, rfl, ⟨n4, y4, h4⟩, v5, _, rfl, ⟨n5, y5, h5⟩, v6, _, rfl, ⟨n6, y6, h6⟩, v7, _, rfl, ⟨n7, y7, h7⟩, v8, _, rfl, ⟨n8, y8, h8⟩, v9, _, rfl, ⟨n9, y9, h9⟩, v10, _, rfl, ⟨n10, y10, h10⟩, v11, _, rfl, ⟨n11, y11, h11⟩, rfl⟩ := h
  obtain ⟨a0, e0, w0⟩ := int_cell Tryz.underlying5 h0
  cases e0
  obtain ⟨a1, e1, w1⟩ := int_cell Tryz.underlying5 h1
  cases e1
  obtain ⟨a2, e2, w2⟩ := int_cell Tryz.underlying29 h2
  cases e2
  obtain ⟨a3, e3, w3⟩ := int_cell Tryz.underlying5 h3
  cases e3
  obtain ⟨a4, e4, w4⟩ := int_cell Tryz.underlying5 h4
  cases e4
  obtain ⟨a5, e5, w5⟩ := int_cell Tryz.underlying40 h5
  cases e5
  obtain ⟨a6, e6, w6⟩ := int_cell Tryz.underlying41 h6
  cases e6
  obtain ⟨a7, e7, w7⟩ := int_cell Tryz.underlying2 h7
  cases e7
  obtain ⟨a8, e8, w8⟩ := int_cell Tryz.underlying44 h8
  cases e8
  obtain ⟨a9, e9, w9⟩ := int_cell Tryz.underlying41 h9
  cases e9
  obtain ⟨a10, e10, w10⟩ := int_cell Tryz.underlying2 h10
  cases e10
  obtain ⟨a11, e11, w11⟩ := int_cell Tryz.underlying26 h11
  cases e11
  exact ⟨⟨a0, ⟨⟨a1, a2⟩, a3⟩, ⟨⟨a4, a5, a6⟩, a7, a8, a9⟩, a10, a11⟩, rfl, ⟨wfu8 w1, wfu64 w2⟩, wfu8 w3⟩
def cmTs : List TypeId := [5, 5, 5, 5, 29, 5] ++ ([9, 32, 2, 33, 2] ++ ([2, 5, 29] ++ [5, 5, 29, 5, 5, 40, 41, 2, 44, 41, 2, 26]))
theorem cm_of {cs : List Value} (h : FlatAs enc Tryz.prog w base spare held cmTs cs) : ∃ x : CmX, cmC x = cs ∧ CmIn w x := by
  obtain ⟨x1, r1, e1, h1, g1⟩ := FlatAs.split h
  obtain ⟨x2, r2, e2, h2, g2⟩ := FlatAs.split g1
  obtain ⟨x3, x4, e3, h3, h4⟩ := FlatAs.split g2
  obtain ⟨a, b, c, t, i, f1, k1, k2, k3, k4, k5⟩ := cmHead_of h1
  obtain ⟨s, A, f2, s1, s2⟩ := sale_of h2
  obtain ⟨am, src, num, f3, k6⟩ := cmMid_of h3
  obtain ⟨m, f4, k7⟩ := cmMsg_of h4
  refine ⟨⟨⟨a, b, ⟨c, t, i, s, am⟩, src, num, m⟩, A⟩, ?_, ⟨s1, s2, k1, k2, k3, k4, k5, k6, k7⟩⟩
  rw [e1, e2, e3, ← f1, ← f2, ← f3, ← f4]
  rfl
theorem cm_flat : flatT Tryz.prog 6 52 = some cmTs := by kernel_rfl
theorem cms_cell {n : Nat} {v : Value} {y : DataW H × List MemPlace} (h : DataW.trod enc Tryz.prog w base spare held n 22 [v] = some y) :
    ∃ (a : Option Addr) (l : List CmX) (c : Nat), v = .slice a l.length c ∧ Row w a (cellsL cmC l) ∧ (a = none → c = 0) ∧ l.length ≤ maxLen ∧ ∀ x ∈ l, CmIn w x := by
  obtain ⟨a, len, cap, rows, rfl, hlen, hrows, hr, hn, hm, _⟩ := slice_rows (fun cs => ∃ l : CmX, cmC l = cs ∧ CmIn w l) Tryz.underlying22 (show Tryz.prog.cellsOf 52 = 26 by kernel_rfl) (by decide)
    (fun n cs y hl h => cm_of (flat_of 6 _ _ cm_flat n cs y h (by rw [hl]; kernel_rfl))) h
  obtain ⟨l, hl⟩ := listOf (enc := fun x : { x : CmX // CmIn w x } => cmC x.1) (Q := fun cs => ∃ l : CmX, cmC l = cs ∧ CmIn w l) (fun r ⟨x, hx, hk⟩ => ⟨⟨x, hk⟩, hx⟩) rows (fun r hr => (hrows r hr).2)
  have hl2 : (l.map (·.1)).map cmC = rows := by rw [List.map_map]; exact hl
  have hl3 : (l.map (·.1)).length = len := by rw [← hlen, ← hl2]; simp
  refine ⟨a, l.map (·.1), cap, by rw [hl3], ?_, hn, by rw [hl3]; exact hm, fun x hx => ?_⟩
  · unfold cellsL; rw [hl2]; exact hr
  · obtain ⟨z, _, rfl⟩ := List.mem_map.1 hx; exact z.2
end
end Go.Proofs.YtdnaegleifhmgaaGreat
end
section
namespace Go.Proofs.YtdnaegleifhmgaaGreat
open Go.RowKit Go.Lib Go.Tk Go.Shelf Go.Vc Go.Sx
def t15 : Tid := ⟨1, 1⟩
def k15 : Kid := ⟨⟨0, 7⟩, 0⟩
end Go.Proofs.YtdnaegleifhmgaaGreat
end
section
namespace Go.Proofs.YtdnaegleifhmgaaGreat
open Go.RowKit Go.Lib Go.Tk Go.Shelf Go.Vc Go.Sx
theorem load_openG3 {P : Program} {t k j : Nat} {F : Nat → Value → Chunk} {a : Option Addr} {xs : List Value} {cs : List SV} {u : SV} (q1 q2 q3 : Nat) (hu : Go.Sx.partAt P t cs (q1 + q2 + q3) = some u) (hR : ∀ b v, Rd (F b v) a xs) (hc : ∀ ε i v, cs[i]? = some v → xs[k + i]? = some (v.den ε)) (h0 : 0 < xs.length) :
    OpG P (isLoad t) loadX [.val (.pointer (some (((((a.getD ⟨0, 0, none⟩).add k).add q1).add q2).add q3)))] [((0, j), .fam F)] [] u [] := by
  have := load_openG (j := j) (q1 + q2 + q3) hu hR hc h0
  have e : ∀ x : Addr, ((x.add q1).add q2).add q3 = x.add (q1 + q2 + q3) := fun x => by
    by_cases hk : q1 = 0 <;> by_cases hj : q2 = 0 <;> by_cases hl : q3 = 0 <;> simp [Addr.add, hk, hj, hl, Nat.add_assoc]
  rw [e]
  exact this
end Go.Proofs.YtdnaegleifhmgaaGreat
end
section
namespace Go.Proofs.YtdnaegleifhmgaaGreat
open Go.RowKit Go.Lib Go.Tk Go.Shelf Go.Vc Go.Sx Go.Maps Go.Sort
def plR (l : List PlaceV) : SC := .row 61 8 l.length (.shal (cellsL placeL l)) []
theorem placesC {B : LedV} (h : LedG B) (hl : B.slips.length ≤ 1000000) : CallOK Tryz.prog PlacesF [.ptr 0 0 0] [] (ledC B) (.raw 1 0) (ledC B ++ [((1, 0), plR (plL B))]) := by
  have hk : ∀ p ∈ B.slips, p.2.p.key = p.1 := fun p hp => (h.ok.key _ _ (lkt_of h.knd hp)).1
  have c := places_w B h.knd hk hl
  have e : placesR B = plR (plL B) := by
    unfold placesR plR
    rw [plL_len]
    congr 2
    unfold plL cellsL
    rw [List.map_map]
    congr 1
    refine List.map_congr_left fun k hk2 => ?_
    have hk3 := (sortBy_perm cfK (B.slips.map (·.1))).mem_iff.1 hk2
    obtain ⟨p, hp, rfl⟩ := List.mem_map.1 hk3
    have e1 := lkt_of h.knd hp
    show encP B.slips p.1 = placeL (sAt B.slips p.1).p
    unfold encP sAt
    rw [e1, Option.getD_some]
    have := hk p hp
    obtain ⟨k, ⟨⟨key, way, car, st, non, paid⟩, l, v⟩⟩ := p
    have e : key = k := this
    subst e
    rfl
  rw [e] at c
  exact c
theorem place_nth {l : List PlaceV} {i : Nat} (h : i < l.length) : ∀ (ε : Env) (q : Nat) (v : SV), (placeS (pAt l i))[q]? = some v → (cellsL placeL l)[i * 8 + q]? = some (v.den ε) :=
  cells_nth (enc := placeL) (encS := placeS) (fun _ _ => rfl) (fun _ => rfl) (getD_some h place0)
def CmT : TypeId := 22
def cmZ : CmX := ⟨⟨0, 0, ⟨0, ⟨0, 0⟩, 0, ⟨⟨#[]⟩, [], 0, [], 0⟩, 0⟩, 0, 0, ⟨0, ⟨⟨0, 0⟩, 0⟩, ⟨⟨0, 0, 0⟩, 0, 0, 0⟩, 0, 0⟩⟩, ⟨none, 0, none, 0⟩⟩
def cmX (x : CmX) : List SV := cmtS x.c x.A
theorem cmX_den (x : CmX) (ε : Env) : SV.dens ε (cmX x) = cmC x := rfl
theorem cm_nth {l : List CmX} {i : Nat} (h : i < l.length) : ∀ (ε : Env) (q : Nat) (v : SV), (cmX (l.getD i cmZ))[q]? = some v → (cellsL cmC l)[i * 26 + q]? = some (v.den ε) :=
  cells_nth (enc := cmC) (encS := cmX) cmX_den (fun _ => rfl) (getD_some h cmZ)
theorem cm_len (l : List CmX) : (cellsL cmC l).length = l.length * 26 := cellsL_len (enc := cmC) (size := 26) (fun _ => rfl) l
def greatC (x : CmX) : Bool := decide ((20 : Int) < (x.c.cmd.s.legs.length : Int)) || (decide ((20 : Int) < (x.c.cmd.s.taxes.length : Int)) || decide ((200 : Int) < (x.c.cmd.s.name.size : Int)))
def greatB24 (l : List CmX) : Bool := decide ((150 : Int) < (l.length : Int)) || l.any greatC
def Great24F : Nat := 8
theorem great24_w (F : CF) {a : Option Addr} {cap : Nat} {l : List CmX} (hR : ∀ b v, Rd (F b v) a (cellsL cmC l)) :
    CallOK Tryz.prog Great24F [.val (.slice a l.length cap)] [((0, 9), .fam F)] [] (.val (.bool (greatB24 l))) [] := by
  rcases Bool.eq_false_or_eq_true (decide ((150 : Int) < (l.length : Int))) with g | g
  · rw [show greatB24 l = true by unfold greatB24; rw [g]; rfl]
    exact callOK_run 400 [hB 1 2 _ _ g] (by kernel_rfl) (by kernel_rfl)
  have hl150 : l.length ≤ 150 := by have := of_decide_eq_false g; omega
  refine callOK_intro (by kernel_rfl) fun eb R => ?_
  refine go_loop (X := { i : Nat // i ≤ l.length ∧ ∀ j, j < i → greatC (l.getD j cmZ) = false }) 0 [] (fun x => ([(0, .val (.slice a l.length cap)), (3, .val (.int .i64 (x.1 : Int)))], [((0, 9), .fam F)])) (fun x => l.length - x.1) ⟨0, Nat.zero_le _, fun j hj => absurd hj (Nat.not_lt_zero _)⟩ calNone false 400 [hB 1 2 _ _ g] calNone_ok (by kernel_rfl) ?_
  rintro ⟨i, hi, hd⟩ J hJ
  by_cases h : i < l.length
  · have hin : l.getD i cmZ ∈ l := List.mem_of_getElem? (getD_some h cmZ)
    have q0 : decide ((i : Int) < (l.length : Int)) = true := decide_eq_true (by omega)
    have q1 := idx_openG (P := Tryz.prog) (t := CmT) (e := 52) (size := 26) (j := 9) (k := .i64) (cap := cap) (n := l.length) Tryz.underlying22 (by kernel_rfl) (cm_len l) hR h
    have hpos : 0 < (cellsL cmC l).length := by rw [cm_len]; omega
    have q2 := load_openG3 (P := Tryz.prog) (t := 35) (k := i * 26) (j := 9) (u := .agg (salS (l.getD i cmZ).c.cmd.s (.val (.slice (l.getD i cmZ).A.la (l.getD i cmZ).c.cmd.s.legs.length (l.getD i cmZ).A.lc)) (.val (.slice (l.getD i cmZ).A.ta (l.getD i cmZ).c.cmd.s.taxes.length (l.getD i cmZ).A.tc)))) 1 1 4 (by kernel_rfl) hR (cm_nth h) hpos
    have q9 : IntKind.i64.wrap ((i : Int) + 1) = ((i + 1 : Nat) : Int) := by rw [wr_i64 (by omega)]; omega
    have bad : greatC (l.getD i cmZ) = true → greatB24 l = true := fun e => by
      unfold greatB24
      rw [List.any_eq_true.2 ⟨_, hin, e⟩, Bool.or_true]
    have good : greatC (l.getD i cmZ) = false → ∀ j, j < i + 1 → greatC (l.getD j cmZ) = false := fun e j hj => by
      by_cases q : j = i
      · subst q; exact e
      · exact hd j (by omega)
    generalize hx : l.getD i cmZ = x at *
    rcases Bool.eq_false_or_eq_true (decide ((20 : Int) < (x.c.cmd.s.legs.length : Int))) with g1 | g1
    · rw [bad (by unfold greatC; rw [g1]; rfl)]
      exact leaf_end calNone false 400 [hB 4 3 _ _ q0, hG 6 2 q1, hG 6 6 q2, hB 7 3 _ _ g1] calNone_ok (by kernel_rfl)
    rcases Bool.eq_false_or_eq_true (decide ((20 : Int) < (x.c.cmd.s.taxes.length : Int))) with g2 | g2
    · rw [bad (by unfold greatC; rw [g1, g2]; rfl)]
      exact leaf_end calNone false 400 [hB 4 3 _ _ q0, hG 6 2 q1, hG 6 6 q2, hB 7 3 _ _ g1, hB 7 8 _ _ g2] calNone_ok (by kernel_rfl)
    rcases Bool.eq_false_or_eq_true (decide ((200 : Int) < (x.c.cmd.s.name.size : Int))) with g3 | g3
    · rw [bad (by unfold greatC; rw [g1, g2, g3]; rfl)]
      exact leaf_end calNone false 400 [hB 4 3 _ _ q0, hG 6 2 q1, hG 6 6 q2, hB 7 3 _ _ g1, hB 7 8 _ _ g2, hB 7 14 _ _ g3] calNone_ok (by kernel_rfl)
    have gg : greatC x = false := by unfold greatC; rw [g1, g2, g3]; rfl
    have hJ' := hJ ⟨i + 1, h, good gg⟩ (by show _ - (i + 1) < _ - i; omega)
    exact leaf_next calNone false 400 [hB 4 3 _ _ q0, hG 6 2 q1, hG 6 6 q2, hB 7 3 _ _ g1, hB 7 8 _ _ g2, hB 7 14 _ _ g3, hI 5 1 IntKind.i64 _ _ q9] calNone_ok hJ' (by kernel_rfl)
  · have q0 : decide ((i : Int) < (l.length : Int)) = false := decide_eq_false (by omega)
    have e : greatB24 l = false := by
      unfold greatB24
      rw [g, Bool.false_or, List.any_eq_false]
      intro x hx
      obtain ⟨j, hj, rfl⟩ := List.getElem_of_mem hx
      have := hd j (by omega)
      rw [List.getD_eq_getElem?_getD, List.getElem?_eq_getElem hj] at this
      simpa using this
    rw [e]
    exact leaf_end calNone false 400 [hB 4 3 _ _ q0] calNone_ok (by kernel_rfl)
theorem greatB24_no {l : List CmX} (h : greatB24 l = false) : l.length ≤ 150 ∧ ∀ x ∈ l, x.c.cmd.s.legs.length ≤ 20 ∧ x.c.cmd.s.taxes.length ≤ 20 := by
  unfold greatB24 at h
  rw [Bool.or_eq_false_iff] at h
  refine ⟨by have := of_decide_eq_false h.1; omega, fun x hx => ?_⟩
  have := List.any_eq_false.1 h.2 x hx
  unfold greatC at this
  simp only [Bool.not_eq_true, Bool.or_eq_false_iff, decide_eq_false_iff_not] at this
  omega
structure CmRd (F : CF) (x : CmX) : Prop where
  wf : CmtWf x.c
  hl : ∀ b v, Rd (F b v) x.A.la (cellsL encLeg x.c.cmd.s.legs)
  ht : ∀ b v, Rd (F b v) x.A.ta (cellsL encTax x.c.cmd.s.taxes)
  h1 : SlOk x.A.la x.c.cmd.s.legs.length x.A.lc
  h2 : SlOk x.A.ta x.c.cmd.s.taxes.length x.A.tc
theorem cslOk_row {w : World} {a : Option Addr} {xs : List Value} {n c : Nat} (hr : Row w a xs) (hx : a = none → xs.length = 0 → n = 0) (hn : a = none → c = 0) : SlOk a n c := ⟨fun e => ⟨hx e (by
  subst e
  cases hl : xs.length with
  | zero => rfl
  | succ k =>
    obtain ⟨b, off, h, -⟩ := hr 0 (by omega)
    cases h), hn e⟩⟩
theorem cmRd_of {w : World} {x : CmX} (h : CmIn w x) (h1 : x.c.cmd.s.legs.length ≤ 1000) (h2 : x.c.cmd.s.taxes.length ≤ 1000) : CmRd (fun _ _ => oldC w) x where
  wf := ⟨h.car, h.kind, h.src, h.ck, h.ct, h.ci, h.ok.small h1 h2, h.key⟩
  hl := fun _ _ => rd_old h.at_.legs
  ht := fun _ _ => rd_old h.at_.taxes
  h1 := cslOk_row h.at_.legs (fun _ e => by rw [cellsL_len encLeg_len] at e; omega) h.at_.lnil
  h2 := cslOk_row h.at_.taxes (fun _ e => by rw [cellsL_len (enc := encTax) (size := 2) (fun _ => rfl)] at e; omega) h.at_.tnil
theorem step_x {F : CF} {B : LedV} (hb : LedG B) {x : CmX} (h : CmRd F x) : CallOK Tryz.prog StepLF [.ptr 0 0 0, .agg (cmX x)] [((0, 9), .fam F)] (ledC B) (stV' (StR B x.c)) (ledC (StR B x.c).b ++ [((1, 0), stVL (StR B x.c).st)]) := step_c F hb h.wf h.hl h.ht h.h1 h.h2
theorem nd_sub_len {α : Type} [DecidableEq α] : ∀ (l m : List α), l.Nodup → (∀ x ∈ l, x ∈ m) → l.length ≤ m.length
  | [], m, _, _ => Nat.zero_le _
  | x :: l, m, hn, h => by
    rw [List.nodup_cons] at hn
    have hx := h x List.mem_cons_self
    have ih := nd_sub_len l (m.erase x) hn.2 fun y hy => (List.mem_erase_of_ne (fun e => hn.1 (by rw [← e]; exact hy))).2 (h y (List.mem_cons_of_mem _ hy))
    rw [List.length_erase_of_mem hx] at ih
    have : 0 < m.length := List.length_pos_of_mem hx
    rw [List.length_cons]; omega
theorem split_len {α : Type} (p : α → Bool) : ∀ l : List α, l.length = (l.filter p).length + (l.filter fun x => !p x).length
  | [] => rfl
  | x :: l => by
    have ih := split_len p l
    cases h : p x <;> simp [List.filter_cons, h] <;> omega
def kids4 (d : DocV) : List Kid := [⟨d.t, 0⟩, ⟨d.t, 1⟩, ⟨d.t, 2⟩, ⟨d.t, 3⟩]
theorem kids4_len : ∀ ds : List DocV, (ds.flatMap kids4).length = ds.length * 4
  | [] => rfl
  | d :: r => by
    rw [List.flatMap_cons, List.length_append, kids4_len r, List.length_cons]
    show 4 + _ = _
    omega
theorem docs_few : ∀ (n : Nat) (ds : List DocV), (∀ d ∈ ds, 0 ≤ d.t.c ∧ d.t.c < (n : Int)) → (∀ c, cntC ds c ≤ 32) → ds.length ≤ n * 32
  | 0, [], _, _ => Nat.le_refl _
  | 0, d :: r, h1, _ => by have := h1 d List.mem_cons_self; omega
  | n + 1, ds, h1, h2 => by
    have h3 := docs_few n (ds.filter fun d => !decide (d.t.c = (n : Int))) (fun d hd => by
      have hd := List.mem_filter.1 hd
      have := h1 d hd.1
      have h4 : d.t.c ≠ (n : Int) := by simpa using hd.2
      omega) (fun c => by
      have := h2 c
      unfold cntC at this ⊢
      rw [List.filter_filter]
      have e : (ds.filter fun a => decide (a.t.c = c) && !decide (a.t.c = (n : Int))) = (ds.filter fun a => decide (a.t.c = c)).filter fun a => !decide (a.t.c = (n : Int)) := by
        rw [List.filter_filter]
        congr 1
        funext a
        rw [Bool.and_comm]
      rw [e]
      exact Nat.le_trans (List.length_filter_le _ _) this)
    have h5 := h2 (n : Int)
    unfold cntC at h5
    have h6 := split_len (fun d : DocV => decide (d.t.c = (n : Int))) ds
    omega
theorem slips_few {B : LedV} (h : LedG B) : B.slips.length ≤ 1000000 := by
  have hd : B.docs.length ≤ 8 * 32 := docs_few 8 B.docs (fun d hd => ⟨(h.ok.tid d hd).1.1, by have := h.car d hd; have := h.ok.n.2; omega⟩) h.cnt
  have hs := nd_sub_len (B.slips.map (·.1)) (B.docs.flatMap kids4) h.knd fun k hk => by
    have e : (lkt B.slips k).isSome = true := by
      cases g : lkt B.slips k with
      | none => exact absurd hk (lkt_none.1 g)
      | some s => rfl
    obtain ⟨d, hd, h1, h2, h3⟩ := (h.keys k).1 e
    have := h.ok.vals d hd
    refine List.mem_flatMap.2 ⟨d, hd, ?_⟩
    obtain ⟨kt, ki⟩ := k
    simp only at h1 h2 h3
    rcases (show ki = 0 ∨ ki = 1 ∨ ki = 2 ∨ ki = 3 by omega) with rfl | rfl | rfl | rfl <;> simp [kids4, h1]
  rw [List.length_map, kids4_len] at hs
  omega
theorem LedG.step {B : LedV} (h : LedG B) {c : CmtV} (hc : CmtWf c) : LedG (StR B c).b := (StR_ok h hc).g
end Go.Proofs.YtdnaegleifhmgaaGreat
end
section
namespace Go.Proofs.YtdnaegleifhmgaaGreat
open Go.RowKit Go.Lib Go.Tk Go.Shelf Go.Vc Go.Sx Go.Maps Go.Sort
def ctEq (a b : Tid) : Bool := decide (a.c = b.c) && (decide (a.r = b.r) && true)
theorem ctEq_iff (a b : Tid) : ctEq a b = true ↔ a = b := by
  obtain ⟨a1, a2⟩ := a
  obtain ⟨b1, b2⟩ := b
  simp [ctEq]
def aloSl (a : Option Addr) (n cap i : Nat) : Slots := [(1, .val (.slice a n cap)), (5, .ptr 1 0 0), (7, .val (.int .i64 (i : Int)))]
def aloH (F : CF) (B : LedV) : Heap := [((0, 9), .fam F), ((1, 0), .fam (ledF B))]
end Go.Proofs.YtdnaegleifhmgaaGreat
end
section
namespace Go.Proofs.YtdnaegleifhmgaaGreat
open Go.RowKit Go.Lib Go.Tk Go.Shelf Go.Vc Go.Sx Go.Maps Go.Sort
theorem pl_load {l : List PlaceV} {k : Nat} (h : k < l.length) {t : TypeId} {u : SV} (j : Nat) (hu : Go.Sx.partAt Tryz.prog t (placeS (pAt l k)) j = some u) : OpG Tryz.prog (isLoad t) loadX [.elt 0 0 0 (k * 8) j] [((0, 0), plR l)] [] u [] :=
  load_eltG (P := Tryz.prog) (cs := placeS (pAt l k)) hu (place_nth h)
end Go.Proofs.YtdnaegleifhmgaaGreat
end
section
namespace Go.Proofs.YtdnaegleifhmgaaGreat
open Go.RowKit Go.Lib Go.Tk Go.Shelf Go.Vc Go.Sx Go.Maps Go.Sort
def runL (n : Int) (l : List CmX) : Nat → LedV
  | 0 => ledNew n
  | i + 1 => (StR (runL n l i) (l.getD i cmZ).c).b
theorem runL_g {F : CF} {n : Int} {l : List CmX} (hn : ledE n = 0) (hok : ∀ x ∈ l, CmRd F x) : ∀ i, i ≤ l.length → LedG (runL n l i)
  | 0, _ => new_ok hn
  | i + 1, h => (runL_g hn hok i (by omega)).step (hok _ (List.mem_of_getElem? (getD_some (show i < l.length by omega) cmZ))).wf
theorem pl_few {B : LedV} (h : LedG B) : (plL B).length ≤ 1000000 := by rw [plL_len]; exact slips_few h
end Go.Proofs.YtdnaegleifhmgaaGreat
end
section
namespace Go.Proofs.YtdnaegleifhmgaaGreat
open Go.RowKit Go.Lib Go.Tk Go.Shelf Go.Vc Go.Sx
structure MadeC (s : SaleV) : Prop where
  vl : (shareV s.fare (wsOf s)).length ≤ 4
  op : opL (newL s) = s.fare
  vs : (shareV s.fare (wsOf s)).sum = s.fare
  nn : ∀ v ∈ shareV s.fare (wsOf s), 0 ≤ v
  st : ∀ o ∈ newL s, 1 ≤ o.k.s ∧ o.k.s ≤ 7
  pen : 0 ≤ s.pen
  fare : 0 ≤ s.fare
theorem made_c {s : SaleV} {n : Int} (ok : SaleOk s) (hm : checkE s n = 0) : MadeC s := by
  obtain ⟨-, -, hsh, -⟩ := check_shape hm
  obtain ⟨hS, ha, l1, l4, f0, f1⟩ := shape_share ok hsh
  have hp : 0 ≤ s.pen ∧ s.pen ≤ 1125899906842624 := by
    simp only [shapeB, Bool.and_eq_true] at hsh
    obtain ⟨⟨⟨⟨-, -⟩, h3⟩, -⟩, -⟩ := hsh
    simp only [must3, List.all_cons, List.all_nil, Bool.and_true, Bool.and_eq_true, amtB, decide_eq_true_eq] at h3
    exact h3.2
  have hv : shareV s.fare (wsOf s) = shareL s.fare (wsOf s) := by unfold shareV; rw [if_pos hS]
  have hvs : (shareV s.fare (wsOf s)).sum = s.fare := by rw [hv]; exact shareL_sum _ _ ha
  have st1 : ∀ o ∈ newL s, o.k.s = 1 := fun o ho => by
    unfold newL at ho
    obtain ⟨i, -, rfl⟩ := List.mem_map.1 ho
    rfl
  refine ⟨by rw [shareV_len hS, ws_len]; exact l4, ?_, hvs, fun v hx => ?_, fun o ho => by rw [st1 o ho]; decide, hp.1, f0⟩
  · unfold opL
    rw [List.filter_eq_self.2 fun o ho => by simp [st1 o ho], newL_vals, hvs]
  · rw [hv] at hx
    obtain ⟨i, hi, rfl⟩ := List.getElem_of_mem hx
    have := (shareL_bds (ws_pos ok) ha f0 (i := i) (by rw [shareL_len] at hi; exact hi)).1
    simpa [List.getD_eq_getElem?_getD, hi] using this
theorem toOw_new (k : Kid) (l : Leg) (v : Int) : toOw (slipNew k l v) = ownNew l v := by
  unfold toOw slipNew ownNew
  simp
theorem cS_new {B : LedV} (h : LedG B) {who : Int} {s : SaleV} (hv : (shareV s.fare (wsOf s)).length ≤ 4) : cS (issB B (nextC B who) s).slips (nextC B who) = newL s := by
  have hl : ∀ i : Nat, oAt (issB B (nextC B who) s).slips (nextC B who) i = if i < (shareV s.fare (wsOf s)).length then some (ownNew (s.legs.getD i leg0) ((shareV s.fare (wsOf s)).getD i 0)) else none := fun i => by
    unfold oAt
    have e := lkt_issS (nextC B who) s (shareV s.fare (wsOf s)) B.slips ⟨nextC B who, (i : Int)⟩ (shareV s.fare (wsOf s)).length
    have e : lkt (issB B (nextC B who) s).slips ⟨nextC B who, (i : Int)⟩ = _ := e
    rw [e]
    by_cases q : i < (shareV s.fare (wsOf s)).length
    · rw [if_pos ⟨rfl, by show 0 ≤ (i : Int); omega, by show (i : Int) < _; omega⟩, if_pos q]
      show some (toOw _) = _
      rw [toOw_new]
      show some (ownNew (s.legs.getD (i : Int).toNat leg0) ((shareV s.fare (wsOf s)).getD (i : Int).toNat 0)) = _
      rw [Int.toNat_natCast]
    · rw [if_neg (fun r => q (by have h2 : (i : Int) < ((shareV s.fare (wsOf s)).length : Int) := r.2.2; omega)), if_neg q, h.nokey who rfl]
      rfl
  unfold cS newL
  generalize (shareV s.fare (wsOf s)).length = m at hv hl ⊢
  have e4 : List.range 4 = [0, 1, 2, 3] := rfl
  rw [e4]
  rcases (show m = 0 ∨ m = 1 ∨ m = 2 ∨ m = 3 ∨ m = 4 by omega) with rfl | rfl | rfl | rfl | rfl <;> simp [List.filterMap_cons, hl, List.range_succ]
theorem cS_issNe {B : LedV} {who : Int} {s : SaleV} {t : Tid} (h : t ≠ nextC B who) : cS (issB B (nextC B who) s).slips t = cS B.slips t := cS_congr fun i => by
  show lkt (issS _ _ _ _ _) _ = _
  rw [lkt_issS, if_neg (fun r => h r.1)]
theorem fresh_ne {B : LedV} (h : LedG B) (who : Int) : ∀ x ∈ B.docs, x.t ≠ nextC B who := fun x hx e => h.fresh who (by rw [← e]; exact List.mem_map.2 ⟨x, hx, rfl⟩)
theorem EC.issued {B : LedV} (h : EC B) {who : Int} (hw : 0 ≤ who ∧ who ≤ 255) {s : SaleV} (ok : SaleOk s) (hs : s.fare < 1099511627776) (i : Iss B who s) : EC (issB B (nextC B who) s) := by
  have m := made_c ok i.chk
  refine ⟨h.g.issued hw ok i, ?_⟩
  have e := cS_new (who := who) (s := s) h.g m.vl
  have hvl := newL_vals s
  refine h.ei.add (n := docMade (nextC B who) s) (fresh_ne h.g who) rfl ?_ ?_ rfl (fun t q => cS_issNe q)
  · show DocI _ (cS (issB B (nextC B who) s).slips (nextC B who))
    rw [e]
    have := m.fare
    refine ⟨hvl, m.st, m.nn, m.vs, m.pen, m.fare, Int.le_refl _, Int.le_refl _, Int.le_refl _, Int.le_refl _, fun _ => ⟨rfl, rfl⟩, ?_⟩
    show s.fare + 0 ≤ 1099511627776 * ((cntC B.docs who : Int) + 1)
    omega
  · show mD _ (cS (issB B (nextC B who) s).slips (nextC B who)) = 0
    rw [e]
    unfold mD
    rw [m.op]
    show s.fare - 0 - 0 - 0 - s.fare = 0
    omega
theorem ceSell_c {B : LedV} (h : EC B) {who : Int} (hw : 0 ≤ who ∧ who ≤ 255) {s : SaleV} (ok : SaleOk s) (hs : s.fare < 1099511627776) : EC (ceSell B (cntC B.docs who) who s).b := by
  unfold ceSell
  rcases Bool.eq_false_or_eq_true (decide (issLE (cntC B.docs who) B.n who s = 0)) with e | e <;> rw [e]
  · exact h.issued hw ok hs (iss_of (of_decide_eq_true e))
  · exact h
theorem cex_docs {B : LedV} (h : LedG B) {d : DocV} (hd : d ∈ B.docs) (x : CGift) (who : Int) (s : SaleV) : (cexB B d x (nextC B who) s).docs = putD B.docs (cexD1 x d (nextC B who)) ++ [cexD2 x d (nextC B who) s] := by
  have hf := fresh_ne h who
  show putD (putD (B.docs ++ [docMade (nextC B who) s]) (cexD1 x d (nextC B who))) (cexD2 x d (nextC B who) s) = _
  have e1 : putD (B.docs ++ [docMade (nextC B who) s]) (cexD1 x d (nextC B who)) = putD B.docs (cexD1 x d (nextC B who)) ++ [docMade (nextC B who) s] := by
    unfold putD
    rw [List.map_append, List.map_cons, List.map_nil, if_neg (show (docMade (nextC B who) s).t ≠ (cexD1 x d (nextC B who)).t from fun e => hf d hd e.symm)]
  rw [e1]
  have e2 : ∀ y ∈ putD B.docs (cexD1 x d (nextC B who)), y.t ≠ (cexD2 x d (nextC B who) s).t := fun y hy => by
    rcases putD_mem hy with rfl | ⟨hy, -⟩
    · exact hf d hd
    · exact hf y hy
  rw [putD_app, putD_none e2]
  show _ ++ [if (docMade (nextC B who) s).t = (cexD2 x d (nextC B who) s).t then cexD2 x d (nextC B who) s else docMade (nextC B who) s] = _
  rw [if_pos (show (docMade (nextC B who) s).t = (cexD2 x d (nextC B who) s).t from rfl)]
theorem cdoc_r {B : LedV} (h : LedG B) {x : DocV} (hx : x ∈ B.docs) : 1 ≤ x.t.r ∧ x.t.r ≤ cntC B.docs x.t.c := (h.ser x.t.c x.t.r).1 (List.mem_map.2 ⟨x, hx, rfl⟩)
theorem ceExchange_c {B : LedV} (h : EC B) {who : Int} (hw : 0 ≤ who ∧ who ≤ 255) (t : Tid) {s : SaleV} (ok : SaleOk s) (hs : s.fare < 1099511627776) : EC (ceExchange B (cntC B.docs who) who t s).b := by
  have hg := (ceExchange_ok h.g hw (t := t) ok).g
  unfold ceExchange at hg ⊢
  cases hf : lkD B.docs t with
  | none => exact h
  | some d =>
    rw [hf] at hg
    obtain ⟨hd, rfl⟩ := lkD_mem hf
    have hg : LedG (bif d.t.c != who then failC 4 B else ceExchangeD B (cntC B.docs who) who s d (cgiftV B.slips d d.vals.length)).b := hg
    show EC (bif d.t.c != who then failC 4 B else ceExchangeD B (cntC B.docs who) who s d (cgiftV B.slips d d.vals.length)).b
    cases hww : (d.t.c != who) with
    | true => exact h
    | false =>
      rw [hww] at hg
      have hwho : d.t.c = who := by simpa using hww
      have hg : LedG (ceExchangeD B (cntC B.docs who) who s d (cgiftV B.slips d d.vals.length)).b := hg
      show EC (ceExchangeD B (cntC B.docs who) who s d (cgiftV B.slips d d.vals.length)).b
      have go := cgift_ok h hd
      generalize cgiftV B.slips d d.vals.length = x at hg go ⊢
      unfold ceExchangeD at hg ⊢
      rcases Bool.eq_false_or_eq_true (cnone x d || !tid0B' d.dst) with e1 | e1 <;> rw [e1] at hg ⊢
      · exact h
      rcases Bool.eq_false_or_eq_true (decide (cexE x d = 0)) with e2 | e2 <;> rw [e2] at hg ⊢
      · rcases Bool.eq_false_or_eq_true (decide (issLE (cntC B.docs who) B.n who s = 0)) with e3 | e3 <;> rw [e3] at hg ⊢
        · have i := iss_of (of_decide_eq_true e3)
          have m := made_c ok i.chk
          obtain ⟨he1, he2⟩ := first2_0 (of_decide_eq_true e2)
          rw [Bool.or_eq_false_iff, Bool.not_eq_false'] at e1
          have hdst := tid0'_eq e1.2
          have hi := h.ei.doc d hd
          obtain ⟨g1, g2, g3⟩ := go he1
          have hne : d.t ≠ nextC B who := fresh_ne h.g who d hd
          refine ⟨hg, ?_⟩
          show EI (cexB B d x (nextC B who) s).docs (cS (cturnN (issB B (nextC B who) s).slips d.t 7 d.vals.length))
          rw [cex_docs h.g hd]
          have gi := h.g.issued hw ok i
          have hd1 : d ∈ (issB B (nextC B who) s).docs := List.mem_append_left _ hd
          have c1 : cS (cturnN (issB B (nextC B who) s).slips d.t 7 d.vals.length) d.t = (cS B.slips d.t).map (turnO 7) := (cS_turn (lkt_turnT gi hd1 7)).trans (by rw [cS_issNe hne])
          have c2 : cS (cturnN (issB B (nextC B who) s).slips d.t 7 d.vals.length) (nextC B who) = newL s := (cS_congr fun i => lkt_turnNe gi.ok.key hne.symm 7 _ i).trans (cS_new h.g m.vl)
          have hk0 := hi.kept
          have hl0 := hi.left
          have hp0 := hi.paid
          have hb0 := hi.back
          have hf0 := m.fare
          have hbn := hi.bnd
          have hbal := h.ei.non d hd hdst
          have hrr := cdoc_r h.g hd
          rw [hwho] at hrr
          have hop := opL_nn hi
          have hopn : ((frL (cS B.slips d.t)).map (·.k.v)).sum ≤ opL (cS B.slips d.t) := by
            have := opL_turn (s := 7) (by decide) (cS B.slips d.t)
            have hnn : 0 ≤ opL ((cS B.slips d.t).map (turnO 7)) := by
              refine sum_nonneg _ fun x hx => ?_
              obtain ⟨o, ho, rfl⟩ := List.mem_map.1 hx
              have h5 := List.mem_map_of_mem (f := fun o : OwnV => o.k.v) (List.mem_filter.1 ho).1
              rw [turn_vals, hi.vals] at h5
              exact hi.nn _ h5
            omega
          unfold mD at hbal
          have hu : usedC s x ≤ s.fare ∧ usedC s x ≤ x.g ∧ 0 ≤ usedC s x ∧ (usedC s x = s.fare ∨ usedC s x = x.g) := by
            unfold usedC
            split <;> omega
          refine h.ei.exch h.g.ok.nodup hd (d' := cexD1 x d (nextC B who)) (n := cexD2 x d (nextC B who) s) rfl rfl hdst rfl ?_ rfl (fresh_ne h.g who) rfl rfl ?_ ?_ ?_ ?_ ?_
          · intro e
            have e : (⟨who, (cntC B.docs who : Int) + 1⟩ : Tid) = ⟨0, 0⟩ := e
            injection e with _ e
            omega
          · rw [c1]
            refine ⟨by rw [turn_vals]; exact hi.vals, turn_st (by decide) hi.st, hi.nn, hi.sum, hi.pen, hi.paid, hi.back, ?_, Int.le_refl _, by have := hi.leftc; show (0 : Int) ≤ d.credit; omega, hi.frm, hi.bnd⟩
            show 0 ≤ (addI d.kept x.k).1
            rw [addI_val he2]; omega
          · show DocI (cexD2 x d (nextC B who) s) (cS (cturnN (issB B (nextC B who) s).slips d.t 7 d.vals.length) (nextC B who))
            rw [c2]
            refine ⟨newL_vals s, m.st, m.nn, m.vs, m.pen, ?_, Int.le_refl _, Int.le_refl _, ?_, ?_, fun q => ?_, ?_⟩
            · show 0 ≤ s.fare - usedC s x
              omega
            · show 0 ≤ x.g - usedC s x
              omega
            · show x.g - usedC s x ≤ x.g
              omega
            · have q : d.t = tid0 := q
              rw [q] at hrr
              exact absurd hrr.1 (by decide)
            · show s.fare - usedC s x + x.g ≤ 1099511627776 * ((cntC B.docs who : Int) + 1)
              have : 1099511627776 * d.t.r ≤ 1099511627776 * (cntC B.docs who : Int) := by omega
              omega
          · rw [c1]
            unfold mD
            rw [opL_turn (by decide)]
            show d.paid - d.back - (addI d.kept x.k).1 - 0 - _ = _ + x.g
            rw [addI_val he2]; omega
          · show mD (cexD2 x d (nextC B who) s) (cS (cturnN (issB B (nextC B who) s).slips d.t 7 d.vals.length) (nextC B who)) = _
            rw [c2]
            unfold mD
            rw [m.op]
            show s.fare - usedC s x - 0 - 0 - (x.g - usedC s x) - s.fare = -x.g
            omega
          · intro t' q1 q2
            exact (cS_congr fun i => lkt_turnNe gi.ok.key q1 7 _ i).trans (cS_issNe q2)
        · exact h
      · exact h
theorem EC.put {B : LedV} (h : EC B) {k : Kid} {s x : SlipV} (hs : lkt B.slips k = some s) (hv : x.v = s.v) (hx : x.p.st ≤ 4 ↔ s.p.st ≤ 4) (hg : LedG (B.setS (putt B.slips k x))) : EC (B.setS (putt B.slips k x)) :=
  ⟨hg, h.ei.lw (fun t => cS_lw fun i => by
    unfold oAt
    show (Option.map toOw (lkt (putt B.slips k x) ⟨t, (i : Int)⟩)).map lw = _
    rw [lkt_put]
    by_cases e : k = ⟨t, (i : Int)⟩
    · rw [if_pos e, ← e, hs]
      show some (lw (toOw x)) = some (lw (toOw s))
      unfold lw toOw
      rw [hv]
      congr 2
      exact decide_eq_decide.2 hx
    · rw [if_neg e]) (fun t => cS_st hg t)⟩
theorem ceGive_c {B : LedV} (h : EC B) (who : Int) (c : CmdV) : EC (ceGive B who c).b := by
  have hg := (ceGive_ok h.g (W := fun _ => True) (who := who) (c := c)).g
  unfold ceGive at hg ⊢
  rcases Bool.eq_false_or_eq_true (lkt B.slips c.k).isSome with e1 | e1 <;> rw [e1] at hg ⊢
  · rcases Bool.eq_false_or_eq_true (decide (who = c.t.c)) with e2 | e2 <;> rw [e2] at hg ⊢
    · exact h
    · rcases Bool.eq_false_or_eq_true ((sAt B.slips c.k).at_ who) with e3 | e3 <;> rw [e3] at hg ⊢
      · rcases Bool.eq_false_or_eq_true (decide ((sAt B.slips c.k).p.st = 1)) with e4 | e4 <;> rw [e4] at hg ⊢
        · exact h.put (sAt_of e1) rfl Iff.rfl hg
        · exact h
      · exact h
  · exact h
theorem ceUse_c {B : LedV} (h : EC B) (who : Int) {c : CmdV} (hk : c.kind = 9 ∨ c.kind = 10 ∨ c.kind = 11 ∨ c.kind = 12) : EC (ceUse B who c).b := by
  have hg := (ceUse_ok h.g (W := fun _ => True) (who := who) hk).g
  unfold ceUse at hg ⊢
  rcases Bool.eq_false_or_eq_true (lkt B.slips c.k).isSome with e1 | e1 <;> rw [e1] at hg ⊢
  · rcases Bool.eq_false_or_eq_true ((sAt B.slips c.k).at_ who) with e3 | e3 <;> rw [e3] at hg ⊢
    · rcases Bool.eq_false_or_eq_true ((sAt B.slips c.k).l.c != who) with e2 | e2 <;> rw [e2] at hg ⊢
      · exact h
      · rcases Bool.eq_false_or_eq_true (decide ((nextI (sAt B.slips c.k).p.st c.kind).2 = 0)) with e4 | e4 <;> rw [e4] at hg ⊢
        · have nx := next_cases hk (of_decide_eq_true e4)
          generalize nextI (sAt B.slips c.k).p.st c.kind = y at nx hg ⊢
          refine h.put (s := sAt B.slips c.k) (sAt_of e1) rfl ?_ hg
          show y.1 ≤ 4 ↔ _
          omega
        · exact h
    · exact h
  · exact h
theorem pk_st (s : SlipV) (who src : Int) (m : MsV) : (pk s who src m).p.st = s.p.st ∧ (pk s who src m).v = s.v := by
  unfold pk
  split
  · unfold pkWant
    cases (decide (m.key.t.c = who) && (s.free && (decide (s.l.c = src) && decide (s.p.nonce < 4294967295)))) <;> exact ⟨rfl, rfl⟩
  split
  · unfold pkGrant
    cases (decide (m.key.t.c = src) && s.under who m.k.n) <;> exact ⟨rfl, rfl⟩
  split
  · unfold pkRet
    cases (decide (m.key.t.c = who) && s.under who m.k.n) <;> exact ⟨rfl, rfl⟩
  split
  · unfold pkRec
    cases (decide (m.key.t.c = src) && (s.at_ who && decide (s.p.st = 1))) <;> exact ⟨rfl, rfl⟩
  split
  · unfold pkBill
    cases (decide (m.key.t.c = who) && (s.at_ src && (decide (s.p.st = 4) && (!s.p.paid && decide (s.v = m.amt))))) <;> exact ⟨rfl, rfl⟩
  · exact ⟨rfl, rfl⟩
theorem pkS_c {B : LedV} (h : EC B) (who src : Int) (m : MsV) (hg : LedG (B.setS (pkS B.slips who src m))) : EC (B.setS (pkS B.slips who src m)) := by
  unfold pkS at hg ⊢
  rcases Bool.eq_false_or_eq_true (lkt B.slips m.key).isSome with e1 | e1 <;> rw [e1] at hg ⊢
  · obtain ⟨a, b⟩ := pk_st (sAt B.slips m.key) who src m
    exact h.put (sAt_of e1) b (by rw [a]) hg
  · exact h
theorem ceStep_c {B : LedV} (h : EC B) {c : CmtV} (hc : CmtWf c) (hs : c.cmd.s.fare < 1099511627776) : EC (StR B c).b := by
  have hg := (StR_ok h.g hc).g
  unfold StR at hg ⊢
  rw [stepR_b] at hg ⊢
  unfold ceStep at hg ⊢
  cases g : stepBad B.n c with
  | true => exact h
  | false =>
    rw [g] at hg
    simp only [cond_false] at hg ⊢
    by_cases k2 : c.kind = 2
    · rw [if_pos k2] at hg ⊢
      exact pkS_c h _ _ _ hg
    rw [if_neg k2] at hg ⊢
    by_cases k3 : c.kind = 3
    · rw [if_pos k3]; exact h
    rw [if_neg k3] at hg ⊢
    unfold ceDo
    split
    · exact ceSell_c h hc.car hc.sale hs
    split
    · exact h
    split
    · exact ceVoid_c h _ _
    split
    · exact ceRefund_c h _ _
    split
    · exact ceExchange_c h hc.car _ hc.sale hs
    split
    · exact ceGive_c h _ _
    split
    · rename_i e; exact ceUse_c h _ e
    split
    · exact h
    · exact h
theorem new_ec {n : Int} (h : ledE n = 0) : EC (ledNew n) := ⟨new_ok h, ⟨fun d hd => absurd hd List.not_mem_nil, fun d hd => absurd hd List.not_mem_nil, fun d hd => absurd hd List.not_mem_nil, rfl⟩⟩
theorem runL_ec {F : CF} {n : Int} {l : List CmX} (hn : ledE n = 0) (hok : ∀ x ∈ l, CmRd F x) : ∀ i, i ≤ l.length → (∀ j, j < i → (l.getD j cmZ).c.cmd.s.fare < 1099511627776) → EC (runL n l i)
  | 0, _, _ => new_ec hn
  | i + 1, h, hf => ceStep_c (runL_ec hn hok i (by omega) fun j hj => hf j (by omega)) (hok _ (List.mem_of_getElem? (getD_some (show i < l.length by omega) cmZ))).wf (hf i (by omega))
end Go.Proofs.YtdnaegleifhmgaaGreat
end
section
namespace Go.Proofs.YtdnaegleifhmgaaGreat
open Go.RowKit Go.Lib Go.Tk Go.Shelf Go.Maps Go.Sort
def or2I (a b : Int) : Int := if a = 0 then b else a
def cfT (x y : Tid) : Int := or2I (cmpI x.c y.c) (cmpI x.r y.r)
set_option maxHeartbeats 2000000 in
theorem or2_any (B : Nat) (a b : Int) (w : World) (h0 : w.cell? ⟨B, 0, none⟩ = some (.int .i64 a)) (h1 : w.cell? ⟨B, 1, none⟩ = some (.int .i64 b)) :
    Calls Tryz.prog 27 #[.slice (some ⟨B, 0, none⟩) 2 2] w fun e w' => e = .returned (.int .i64 (or2I a b)) ∧ w = w' := by
  by_cases ha : a = 0
  · by_cases hb : b = 0
    · have E : Hid (or2I a b = 0) := by unfold Hid or2I; rw [if_pos ha]; exact hb
      subst ha hb
      go_enter Tryz.func27, Tryz.ntmps27
      go_wp2
      refine wp_loop_rounds 3 ?_
      iterate 3 (rw [rounds_succ]; go_wp2)
      go_ret
      exact ⟨ret_i (by rw [E.out]), rfl⟩
    · have E : Hid (or2I a b = b) := by unfold Hid or2I; rw [if_pos ha]
      subst ha
      go_enter Tryz.func27, Tryz.ntmps27
      go_wp2
      refine wp_loop_rounds 3 ?_
      iterate 2 (rw [rounds_succ]; go_wp2)
      go_ret
      exact ⟨ret_i (by rw [E.out]), rfl⟩
  · have E : Hid (or2I a b = a) := by unfold Hid or2I; rw [if_neg ha]
    go_enter Tryz.func27, Tryz.ntmps27
    go_wp2
    refine wp_loop_rounds 3 ?_
    rw [rounds_succ]; go_wp2
    go_ret
    exact ⟨ret_i (by rw [E.out]), rfl⟩
def Docs1F : Nat := 40
set_option maxHeartbeats 8000000 in
theorem docs1_any (p q : DocV × DocA) (w : World) : Calls Tryz.prog 40 #[.agg (docL p).toArray, .agg (docL q).toArray] w fun e w' => e = .returned (.int .i64 (cfT p.1.t q.1.t)) ∧ ∃ n os, w' = grow (w.drewN n) os := by
  obtain ⟨⟨⟨xc, xr⟩, ⟨xs, xb, xe, xg, xi⟩, xk, ⟨xm, xn⟩, ⟨xo, xp⟩, xq, xt, xu, xv, xw⟩, ⟨xa, xd, xf, xh, xj, xl⟩⟩ := p
  obtain ⟨⟨⟨yc, yr⟩, ⟨ys, yb, ye, yg, yi⟩, yk, ⟨ym, yn⟩, ⟨yo, yp⟩, yq, yt, yu, yv, yw⟩, ⟨ya, yd, yf, yh, yj, yl⟩⟩ := q
  simp only [docL, cfT]
  have hmx : Tryz.prog.follows .mixedOrders = true := by kernel_rfl
  go_enter Tryz.func40, Tryz.ntmps40
  go_upto_region 1 with fail
  obtain ⟨W1, hW1⟩ : ∃ W1, W1 = ((w.alloc (.cells #[.int .u8 xc, .int .u64 xr, .string xs, .slice xa xb.length xd, .int .i64 xe, .slice xf xg.length xh, .int .i64 xi, .slice xj xk.length xl, .int .u8 xm, .int .u64 xn, .int .u8 xo, .int .u64 xp, .int .i64 xq, .int .i64 xt, .int .i64 xu, .int .i64 xv, .int .i64 xw] 76)).alloc (.cells #[.int .u8 yc, .int .u64 yr, .string ys, .slice ya yb.length yd, .int .i64 ye, .slice yf yg.length yh, .int .i64 yi, .slice yj yk.length yl, .int .u8 ym, .int .u64 yn, .int .u8 yo, .int .u64 yp, .int .i64 yq, .int .i64 yt, .int .i64 yu, .int .i64 yv, .int .i64 yw] 76)).drew := ⟨_, rfl⟩
  obtain ⟨W2, hW2⟩ : ∃ W2, W2 = W1.alloc (.cells #[.int .i64 (cmpI xc yc), .int .i64 (cmpI xr yr)] 3) := ⟨_, rfl⟩
  have b1 : Box W1 w.heap.size #[.int .u8 xc, .int .u64 xr, .string xs, .slice xa xb.length xd, .int .i64 xe, .slice xf xg.length xh, .int .i64 xi, .slice xj xk.length xl, .int .u8 xm, .int .u64 xn, .int .u8 xo, .int .u64 xp, .int .i64 xq, .int .i64 xt, .int .i64 xu, .int .i64 xv, .int .i64 xw] := by rw [hW1]; exact ((Box.new (w := w) rfl).kept (below_alloc _ _)).kept (Below.refl _ _).drew
  have b2 : Box W1 (w.heap.size + 1) #[.int .u8 yc, .int .u64 yr, .string ys, .slice ya yb.length yd, .int .i64 ye, .slice yf yg.length yh, .int .i64 yi, .slice yj yk.length yl, .int .u8 ym, .int .u64 yn, .int .u8 yo, .int .u64 yp, .int .i64 yq, .int .i64 yt, .int .i64 yu, .int .i64 yv, .int .i64 yw] := by
    rw [hW1]
    have h0 : Box ((w.alloc (.cells #[.int .u8 xc, .int .u64 xr, .string xs, .slice xa xb.length xd, .int .i64 xe, .slice xf xg.length xh, .int .i64 xi, .slice xj xk.length xl, .int .u8 xm, .int .u64 xn, .int .u8 xo, .int .u64 xp, .int .i64 xq, .int .i64 xt, .int .i64 xu, .int .i64 xv, .int .i64 xw] 76)).alloc (.cells #[.int .u8 yc, .int .u64 yr, .string ys, .slice ya yb.length yd, .int .i64 ye, .slice yf yg.length yh, .int .i64 yi, .slice yj yk.length yl, .int .u8 ym, .int .u64 yn, .int .u8 yo, .int .u64 yp, .int .i64 yq, .int .i64 yt, .int .i64 yu, .int .i64 yv, .int .i64 yw] 76)) (w.alloc (.cells #[.int .u8 xc, .int .u64 xr, .string xs, .slice xa xb.length xd, .int .i64 xe, .slice xf xg.length xh, .int .i64 xi, .slice xj xk.length xl, .int .u8 xm, .int .u64 xn, .int .u8 xo, .int .u64 xp, .int .i64 xq, .int .i64 xt, .int .i64 xu, .int .i64 xv, .int .i64 xw] 76)).heap.size #[.int .u8 yc, .int .u64 yr, .string ys, .slice ya yb.length yd, .int .i64 ye, .slice yf yg.length yh, .int .i64 yi, .slice yj yk.length yl, .int .u8 ym, .int .u64 yn, .int .u8 yo, .int .u64 yp, .int .i64 yq, .int .i64 yt, .int .i64 yu, .int .i64 yv, .int .i64 yw] := Box.new rfl
    rw [World.size_alloc] at h0
    exact h0.kept (Below.refl _ _).drew
  have k7 : W1.cell? ⟨w.heap.size, 0, none⟩ = some (.int .u8 xc) := b1.cell 0 rfl
  have k14 : W1.cell? ⟨w.heap.size, 1, none⟩ = some (.int .u64 xr) := b1.cell 1 rfl
  have k10 : W1.cell? ⟨w.heap.size + 1, 0, none⟩ = some (.int .u8 yc) := b2.cell 0 rfl
  have k17 : W1.cell? ⟨w.heap.size + 1, 1, none⟩ = some (.int .u64 yr) := b2.cell 1 rfl
  have x3 : Box W2 W1.heap.size #[.int .i64 (cmpI xc yc), .int .i64 (cmpI xr yr)] := by rw [hW2]; exact Box.new rfl
  have q0 : W2.cell? ⟨W1.heap.size, 0, none⟩ = some (.int .i64 (cmpI xc yc)) := x3.cell 0 rfl
  have q1 : W2.cell? ⟨W1.heap.size, 1, none⟩ = some (.int .i64 (cmpI xr yr)) := x3.cell 1 rfl
  have HW1 := hid hW1
  have HW2 := hid hW2
  clear hW1 hW2 b1 b2 x3
  refine wp_region_vals (fun zz => (#[.pointer (some ⟨w.heap.size, 0, none⟩), .pointer (some ⟨w.heap.size, 0, none⟩), .int .u8 xc, .pointer (some ⟨(w.heap.size + 1), 0, none⟩), .pointer (some ⟨(w.heap.size + 1), 0, none⟩), .int .u8 yc, .int .i64 (cmpI xc yc), .pointer (some ⟨w.heap.size, 0, none⟩), .pointer (some ⟨w.heap.size, 1, none⟩), .int .u64 xr, .pointer (some ⟨(w.heap.size + 1), 0, none⟩), .pointer (some ⟨(w.heap.size + 1), 1, none⟩), .int .u64 yr, .int .i64 (cmpI xr yr), .slice (some ⟨W1.heap.size, 0, none⟩) 2 2, .int .i64 (or2I (cmpI xc yc) (cmpI xr yr)), .int .i64 (or2I (cmpI xc yc) (cmpI xr yr))] : Array Value).getD zz undef) (fun k wx => wx = (match k with | 0 => W1 | _ => W2)) [14] [[], [0], [0, 1], [], [3], [3, 4], [0, 1, 2, 3, 4, 5], [], [7], [7, 8], [], [10], [10, 11], [7, 8, 9, 10, 11, 12], [0, 1, 2, 3, 4, 5, 6, 7, 8, 9, 10, 11, 12, 13], [0, 1, 2, 3, 4, 5, 6, 7, 8, 9, 10, 11, 12, 13, 14], [0, 1, 2, 3, 4, 5, 6, 7, 8, 9, 10, 11, 12, 13, 14, 15]] [0, 0, 0, 0, 0, 0, 0, 0, 0, 0, 0, 0, 0, 0, 0, 1, 1] [0, 0, 0, 0, 0, 0, 0, 0, 0, 0, 0, 0, 0, 0, 0, 1, 1] hmx (by kernel_rfl) (by kernel_rfl) (by kernel_rfl) HW1.out.symm ?_ ?_
  · intro ρ hc hg hf hd ho
    refine ⟨?_, ?_, ?_, ?_, ?_, ?_, ?_, ?_, ?_, ?_, ?_, ?_, ?_, ?_, ?_, ?_, ?_, trivial⟩
    · intro zk wx hl hh _ hO -- 0: fieldAddr 76 t2 0
      have e2 : ρ (.tmp 2) = .pointer (some ⟨w.heap.size, 0, none⟩) := ho 2 (by rfl)
      obtain rfl : zk = 0 := by simp at hl hh; omega
      refine (if_pos (by rfl)).mpr ?_
      simp [go_sem, execOp, resolve, invoke, builtin, opRes_value, opRes_skip, opRes_enter, hc, hg, hf, hO, e2]
    · intro zk wx hl hh _ hO -- 1: fieldAddr 31 t5 0
      have e5 : ρ (.tmp 5) = .pointer (some ⟨w.heap.size, 0, none⟩) := hd 0 _ 5 rfl rfl
      obtain rfl : zk = 0 := by simp at hl hh; omega
      refine (if_pos (by rfl)).mpr ?_
      simp [go_sem, execOp, resolve, invoke, builtin, opRes_value, opRes_skip, opRes_enter, hc, hg, hf, hO, e5]
    · intro zk wx hl hh _ hO -- 2: load 5 t6
      have e6 : ρ (.tmp 6) = .pointer (some ⟨w.heap.size, 0, none⟩) := hd 1 _ 6 rfl rfl
      obtain rfl : zk = 0 := by simp at hl hh; omega
      refine (if_pos (by rfl)).mpr ?_
      have f0 := k7
      obtain rfl : wx = W1 := hO
      have hO := True.intro
      simp [go_sem, execOp, resolve, invoke, builtin, opRes_value, opRes_skip, opRes_enter, hc, hg, hf, hO, e6, f0]
    · intro zk wx hl hh _ hO -- 3: fieldAddr 76 t3 0
      have e3 : ρ (.tmp 3) = .pointer (some ⟨(w.heap.size + 1), 0, none⟩) := ho 3 (by rfl)
      obtain rfl : zk = 0 := by simp at hl hh; omega
      refine (if_pos (by rfl)).mpr ?_
      simp [go_sem, execOp, resolve, invoke, builtin, opRes_value, opRes_skip, opRes_enter, hc, hg, hf, hO, e3]
    · intro zk wx hl hh _ hO -- 4: fieldAddr 31 t8 0
      have e8 : ρ (.tmp 8) = .pointer (some ⟨(w.heap.size + 1), 0, none⟩) := hd 3 _ 8 rfl rfl
      obtain rfl : zk = 0 := by simp at hl hh; omega
      refine (if_pos (by rfl)).mpr ?_
      simp [go_sem, execOp, resolve, invoke, builtin, opRes_value, opRes_skip, opRes_enter, hc, hg, hf, hO, e8]
    · intro zk wx hl hh _ hO -- 5: load 5 t9
      have e9 : ρ (.tmp 9) = .pointer (some ⟨(w.heap.size + 1), 0, none⟩) := hd 4 _ 9 rfl rfl
      obtain rfl : zk = 0 := by simp at hl hh; omega
      refine (if_pos (by rfl)).mpr ?_
      have f0 := k10
      obtain rfl : wx = W1 := hO
      have hO := True.intro
      simp [go_sem, execOp, resolve, invoke, builtin, opRes_value, opRes_skip, opRes_enter, hc, hg, hf, hO, e9, f0]
    · intro zk wx hl hh _ hO -- 6: call { value (Operand.func 28), args := #[t7, t10], argTypes := #[5, 5] }
      have e7 : ρ (.tmp 7) = .int .u8 xc := hd 2 _ 7 rfl rfl
      have e10 : ρ (.tmp 10) = .int .u8 yc := hd 5 _ 10 rfl rfl
      obtain rfl : zk = 0 := by simp at hl hh; omega
      refine (if_pos (by rfl)).mpr ?_
      obtain rfl : wx = W1 := hO
      have hO := True.intro
      simp [go_sem, execOp, resolve, invoke, builtin, opRes_value, opRes_skip, opRes_enter, hc, hg, hf, hO, e7, e10]
      exact (compareB_any _ _ _).mono fun e wy h => ⟨h.1, h.2.symm⟩
    · intro zk wx hl hh _ hO -- 7: fieldAddr 76 t2 0
      have e2 : ρ (.tmp 2) = .pointer (some ⟨w.heap.size, 0, none⟩) := ho 2 (by rfl)
      obtain rfl : zk = 0 := by simp at hl hh; omega
      refine (if_pos (by rfl)).mpr ?_
      simp [go_sem, execOp, resolve, invoke, builtin, opRes_value, opRes_skip, opRes_enter, hc, hg, hf, hO, e2]
    · intro zk wx hl hh _ hO -- 8: fieldAddr 31 t12 1
      have e12 : ρ (.tmp 12) = .pointer (some ⟨w.heap.size, 0, none⟩) := hd 7 _ 12 rfl rfl
      obtain rfl : zk = 0 := by simp at hl hh; omega
      refine (if_pos (by rfl)).mpr ?_
      simp [go_sem, execOp, resolve, invoke, builtin, opRes_value, opRes_skip, opRes_enter, hc, hg, hf, hO, e12]
    · intro zk wx hl hh _ hO -- 9: load 29 t13
      have e13 : ρ (.tmp 13) = .pointer (some ⟨w.heap.size, 1, none⟩) := hd 8 _ 13 rfl rfl
      obtain rfl : zk = 0 := by simp at hl hh; omega
      refine (if_pos (by rfl)).mpr ?_
      have f0 := k14
      obtain rfl : wx = W1 := hO
      have hO := True.intro
      simp [go_sem, execOp, resolve, invoke, builtin, opRes_value, opRes_skip, opRes_enter, hc, hg, hf, hO, e13, f0]
    · intro zk wx hl hh _ hO -- 10: fieldAddr 76 t3 0
      have e3 : ρ (.tmp 3) = .pointer (some ⟨(w.heap.size + 1), 0, none⟩) := ho 3 (by rfl)
      obtain rfl : zk = 0 := by simp at hl hh; omega
      refine (if_pos (by rfl)).mpr ?_
      simp [go_sem, execOp, resolve, invoke, builtin, opRes_value, opRes_skip, opRes_enter, hc, hg, hf, hO, e3]
    · intro zk wx hl hh _ hO -- 11: fieldAddr 31 t15 1
      have e15 : ρ (.tmp 15) = .pointer (some ⟨(w.heap.size + 1), 0, none⟩) := hd 10 _ 15 rfl rfl
      obtain rfl : zk = 0 := by simp at hl hh; omega
      refine (if_pos (by rfl)).mpr ?_
      simp [go_sem, execOp, resolve, invoke, builtin, opRes_value, opRes_skip, opRes_enter, hc, hg, hf, hO, e15]
    · intro zk wx hl hh _ hO -- 12: load 29 t16
      have e16 : ρ (.tmp 16) = .pointer (some ⟨(w.heap.size + 1), 1, none⟩) := hd 11 _ 16 rfl rfl
      obtain rfl : zk = 0 := by simp at hl hh; omega
      refine (if_pos (by rfl)).mpr ?_
      have f0 := k17
      obtain rfl : wx = W1 := hO
      have hO := True.intro
      simp [go_sem, execOp, resolve, invoke, builtin, opRes_value, opRes_skip, opRes_enter, hc, hg, hf, hO, e16, f0]
    · intro zk wx hl hh _ hO -- 13: call { value (Operand.func 29), args := #[t14, t17], argTypes := #[29, 29] }
      have e14 : ρ (.tmp 14) = .int .u64 xr := hd 9 _ 14 rfl rfl
      have e17 : ρ (.tmp 17) = .int .u64 yr := hd 12 _ 17 rfl rfl
      obtain rfl : zk = 0 := by simp at hl hh; omega
      refine (if_pos (by rfl)).mpr ?_
      obtain rfl : wx = W1 := hO
      have hO := True.intro
      simp [go_sem, execOp, resolve, invoke, builtin, opRes_value, opRes_skip, opRes_enter, hc, hg, hf, hO, e14, e17]
      exact (compareU_any _ _ _).mono fun e wy h => ⟨h.1, h.2.symm⟩
    · intro zk wx hl hh _ hO -- 14: buildSlice 117 2 #[(0, t11), (1, t18)]
      have e11 : ρ (.tmp 11) = .int .i64 (cmpI xc yc) := hd 6 _ 11 rfl rfl
      have e18 : ρ (.tmp 18) = .int .i64 (cmpI xr yr) := hd 13 _ 18 rfl rfl
      obtain rfl : zk = 0 := by simp at hl hh; omega
      refine (if_pos (by rfl)).mpr ?_
      obtain rfl : wx = W1 := hO
      have hO := True.intro
      simp [go_sem, execOp, resolve, invoke, builtin, opRes_value, opRes_skip, opRes_enter, hc, hg, hf, hO, e11, e18]
      exact HW2.out.symm
    · intro zk wx hl hh _ hO -- 15: call { value (Operand.func 27), args := #[t19], argTypes := #[117] }
      have e19 : ρ (.tmp 19) = .slice (some ⟨W1.heap.size, 0, none⟩) 2 2 := hd 14 _ 19 rfl rfl
      obtain rfl : zk = 1 := by simp at hl hh; omega
      refine (if_pos (by rfl)).mpr ?_
      obtain rfl : wx = W2 := hO
      have hO := True.intro
      simp [go_sem, execOp, resolve, invoke, builtin, opRes_value, opRes_skip, opRes_enter, hc, hg, hf, hO, e19]
      exact (or2_any _ _ _ _ q0 q1).mono fun e wy h => ⟨h.1, h.2.symm⟩
    · intro zk wx hl hh _ hO -- 16: assign t20
      have e20 : ρ (.tmp 20) = .int .i64 (or2I (cmpI xc yc) (cmpI xr yr)) := hd 15 _ 20 rfl rfl
      obtain rfl : zk = 1 := by simp at hl hh; omega
      refine (if_pos (by rfl)).mpr ?_
      simp [go_sem, execOp, resolve, invoke, builtin, opRes_value, opRes_skip, opRes_enter, hc, hg, hf, hO, e20]
  · intro wx hO
    simp only [ssaAct, Act.put, List.setIfInBounds_toArray, List.set_cons_zero, List.set_cons_succ, Nat.zero_add, Nat.reduceAdd]
    obtain rfl : wx = W2 := hO
    go_wp2
    go_ret
    refine ⟨rfl, 1, #[.cells #[.int .u8 xc, .int .u64 xr, .string xs, .slice xa xb.length xd, .int .i64 xe, .slice xf xg.length xh, .int .i64 xi, .slice xj xk.length xl, .int .u8 xm, .int .u64 xn, .int .u8 xo, .int .u64 xp, .int .i64 xq, .int .i64 xt, .int .i64 xu, .int .i64 xv, .int .i64 xw] 76, .cells #[.int .u8 yc, .int .u64 yr, .string ys, .slice ya yb.length yd, .int .i64 ye, .slice yf yg.length yh, .int .i64 yi, .slice yj yk.length yl, .int .u8 ym, .int .u64 yn, .int .u8 yo, .int .u64 yp, .int .i64 yq, .int .i64 yt, .int .i64 yu, .int .i64 yv, .int .i64 yw] 76, .cells #[.int .i64 (cmpI xc yc), .int .i64 (cmpI xr yr)] 3], ?_⟩
    rw [HW2.out, HW1.out]
    rfl
def ltT (x y : Tid) : Prop := x.c < y.c ∨ (x.c = y.c ∧ x.r < y.r)
theorem lt_tid (x y : Tid) : (ltOf cfT x y = true) ↔ ltT x y := by
  unfold ltOf cfT or2I ltT cmpI
  rcases Int.lt_trichotomy x.c y.c with h | h | h
  · have : ¬ y.c < x.c := by omega
    simp [h]
  · rw [h]
    rcases Int.lt_trichotomy x.r y.r with g | g | g
    · simp [g]
    · rw [g]; simp
    · have a : ¬ x.r < y.r := by omega
      simp [g, a]
  · have a : ¬ x.c < y.c := by omega
    have b : ¬ x.c = y.c := by omega
    simp [h, a, b]
theorem lt_tid_no (x y : Tid) : (ltOf cfT x y = false) ↔ ¬ ltT x y := by
  rw [← lt_tid]
  cases ltOf cfT x y <;> simp
theorem swoT : SWO (ltOf cfT) where
  irrefl x := by rw [lt_tid_no]; unfold ltT; omega
  trans x y z h1 h2 := by rw [lt_tid] at *; unfold ltT at *; omega
  ntrans x y z h1 h2 := by rw [lt_tid_no] at *; unfold ltT at *; omega
theorem totT (x y : Tid) (h1 : ltOf cfT x y = false) (h2 : ltOf cfT y x = false) : x = y := by
  rw [lt_tid_no] at h1 h2
  unfold ltT at h1 h2
  obtain ⟨a, b⟩ := x
  obtain ⟨d, e⟩ := y
  simp only at h1 h2
  have e1 : a = d := by omega
  have e2 : b = e := by omega
  rw [e1, e2]
end Go.Proofs.YtdnaegleifhmgaaGreat
end
section
namespace Go.Proofs.YtdnaegleifhmgaaGreat
open Go.RowKit Go.Lib Go.Tk Go.Shelf Go.Vc Go.Sx Go.Maps
end Go.Proofs.YtdnaegleifhmgaaGreat
end
section
namespace Go.Proofs.YtdnaegleifhmgaaGreat
open Go.RowKit Go.Lib Go.Tk Go.Shelf Go.Vc Go.Sx Go.Maps
def rowsC (L : List (DocV × DocA)) : Chunk where
  at_ S w := ∀ p ∈ L, DocIn S w p
  stable hk hi h := fun p hp => (h p hp).stays hk hi
theorem docs_split {L : List (DocV × DocA)} {b : Nat} {v : Value} {R : List Chunk} {w : World} (h : Mem (docsF L b v :: R) w) : Mem (mapC tidK b (ents docW (docKV L)) :: rowsC L :: R) w := by
  have h1 : Mem (allC [mapC tidK b (ents docW (docKV L)), rowsC L] :: R) w := h.weaken fun S hS => by
    obtain ⟨⟨hb, hm⟩, Sd, g1, g2, -⟩ := hS
    refine ⟨fun i k => match i with | 0 => k = b | _ => Sd k, fun i k hi hk => ?_, fun i c hc => ?_, fun i j k hi hj hij hki hkj => ?_⟩
    · match i, hk with
      | 0, hk => exact hk ▸ hb
      | i + 1, hk => exact (g1 k hk).1
    · match i, hc with
      | 0, hc => cases hc; exact ⟨rfl, hm⟩
      | 1, hc => cases hc; exact g2
      | i + 2, hc => cases hc
    · match i, j, hij, hki, hkj with
      | 0, 0, hij, _, _ => exact hij rfl
      | 0, j + 1, _, hki, hkj => exact (g1 k hkj).2 hki
      | i + 1, 0, _, hki, hkj => exact (g1 k hki).2 hkj
      | i + 1, j + 1, hij, _, _ => simp at hi hj; exact hij (by omega)
  exact h1.all
theorem docs_shut {L : List (DocV × DocA)} {b : Nat} {v : Value} {R : List Chunk} {w : World} (h : Mem (mapC tidK b (ents docW (docKV L)) :: rowsC L :: R) w) : Mem (docsF L b v :: R) w := by
  refine mem_join (l := [mapC tidK b (ents docW (docKV L)), rowsC L]) h fun S hS => ?_
  obtain ⟨F, g1, g2, g3⟩ := hS
  have m0 := g2 0 _ rfl
  have m1 := g2 1 _ rfl
  refine ⟨⟨g1 0 b (by simp) m0.1, m0.2⟩, F 1, fun k hk => ⟨g1 1 k (by simp) hk, fun e => ?_⟩, m1, fun p hp => by cases hp⟩
  subst e
  exact g3 1 0 k (by simp) (by simp) (by decide) hk m0.1
end Go.Proofs.YtdnaegleifhmgaaGreat
end
section
namespace Go.Proofs.YtdnaegleifhmgaaGreat
open Go.RowKit Go.Lib Go.Tk Go.Shelf Go.Vc Go.Sx Go.Maps Go.Sort
def CcopF : Nat := 34
theorem ccopied_w (F : CF) {d : DocV} {a : DocA} (hl : ∀ b v, Rd (F b v) a.la (cellsL encLeg d.s.legs)) (ht : ∀ b v, Rd (F b v) a.ta (cellsL encTax d.s.taxes)) (hv : ∀ b v, Rd (F b v) a.va (d.vals.map (.int .i64)))
    (ol : SlOk a.la d.s.legs.length a.lc) (ot : SlOk a.ta d.s.taxes.length a.tc) (ov : SlOk a.va d.vals.length a.vc) (sm : DocSmall d) :
    CallOK Tryz.prog CcopF [.agg (docSA d a)] [((0, 0), .fam F)] [] (.agg (docS d (.raw 1 0) (.raw 1 1) (.raw 1 2))) (docR d) := by
  have k1 := cloneL0 F hl rfl ol sm.nl
  have k2 := cloneT0 F ht rfl ot sm.nt
  have k3 := cloneI0 F hv rfl ov sm.nv
  exact callOK_run 400 [hC 1 3 k1, hC 1 7 k2, hC 1 10 k3] (by kernel_rfl) (by kernel_rfl)
theorem ccopied_rows (L : List (DocV × DocA)) (p : DocV × DocA) (hp : p ∈ L) (sm : DocSmall p.1) : CallOK Tryz.prog CcopF [.agg (docSA p.1 p.2)] [((0, 5), .fam fun _ _ => rowsC L)] [] (.agg (docS p.1 (.raw 1 0) (.raw 1 1) (.raw 1 2))) (docR p.1) := by
  refine CallOK.mv 5 ?_ rfl rfl rfl
  intro ε R w hM
  have hM' : Mem (rowsC L :: R) w := hM
  have ok : SlOk p.2.la p.1.s.legs.length p.2.lc ∧ SlOk p.2.ta p.1.s.taxes.length p.2.tc ∧ SlOk p.2.va p.1.vals.length p.2.vc := hM'.of 0 rfl fun S hS => ⟨(hS p hp).okl, (hS p hp).okt, (hS p hp).okv⟩
  exact ccopied_w (fun _ _ => rowsC L) (fun b v S w h => (h p hp).legs) (fun b v S w h => (h p hp).taxes) (fun b v S w h => (h p hp).vals) ok.1 ok.2.1 ok.2.2 sm ε R w hM
theorem rows_join {L : List (DocV × DocA)} {p : DocV × DocA} {R : List Chunk} {w : World}
    (h : Mem (rowsC L :: rowC 43 3 (.slice p.2.la p.1.s.legs.length p.2.lc) p.1.s.legs.length (cellsL encLeg p.1.s.legs) :: rowC 126 2 (.slice p.2.ta p.1.s.taxes.length p.2.tc) p.1.s.taxes.length (cellsL encTax p.1.s.taxes) :: rowC 2 1 (.slice p.2.va p.1.vals.length p.2.vc) p.1.vals.length (p.1.vals.map (.int .i64)) :: R) w) : Mem (rowsC (p :: L) :: R) w := by
  refine mem_join (l := [_, _, _, _]) h ?_
  rintro S ⟨F, f1, f2, f3⟩
  have a0 := f2 0 _ rfl
  have a1 := f2 1 _ rfl
  have a2 := f2 2 _ rfl
  have a3 := f2 3 _ rfl
  have ok : ∀ {E size n : Nat} {a : Option Addr} {c : Nat} {xs : List Value}, RowF E size w (.slice a n c) n xs → Row w a xs ∧ SlOk a n c := fun {E size n a c xs} hr => by
    obtain ⟨a', c', hv, hrow, -⟩ := hr.row
    cases hv
    refine ⟨hrow, ⟨fun e => ?_⟩⟩
    obtain ⟨-, ⟨h1, h2⟩ | ⟨g, cap, cur, h1, -⟩⟩ := hr
    · cases h1; exact ⟨rfl, rfl⟩
    · cases h1; cases e
  have r1 := ok a1.2
  have r2 := ok a2.2
  have r3 := ok a3.2
  have blk : ∀ {a : Option Addr} {n c i : Nat}, (∀ g, (Value.slice a n c).ownBlock = some g → F i g) → ∀ x, a = some x → F i x.block := fun h x e => by subst e; exact h _ rfl
  have ne : ∀ i k, i < 4 → F i k → S k := fun i k hi hk => f1 i k (by simpa using hi) hk
  intro q hq
  rcases List.mem_cons.1 hq with rfl | hq
  · exact ⟨r1.1, r2.1, r3.1, fun x e => ne 1 _ (by decide) (blk a1.1 x e), fun x e => ne 2 _ (by decide) (blk a2.1 x e), fun x e => ne 3 _ (by decide) (blk a3.1 x e), r1.2, r2.2, r3.2⟩
  · exact (a0 q hq).more fun k hk => ne 0 k (by decide) hk
theorem rows_nil {R : List Chunk} {w : World} (h : Mem R w) : Mem (rowsC [] :: R) w :=
  h.fresh (w' := w) (c := rowsC []) (Below.refl _ _) (fun _ => False) (fun p hp => by cases hp) (fun k hk => hk.elim)
def cellsDR : List (DocV × DocA) → List Value
  | [] => []
  | p :: r => cellsDR r ++ docL p
def DTs : TypeId := 70
def docsQ (ds : List DocV) : CF := fun _ v => exC fun (L : { L : List (DocV × DocA) // L.map (·.1) = ds }) => allC [rowC 76 17 (asSl v) L.1.length (cellsDR L.1), rowsC L.1]
theorem docL_one (p : DocV × DocA) : ∀ u ∈ docL p, u.oneCell' = true := fun u hu => by
  simp only [docL, List.mem_cons, List.not_mem_nil, or_false] at hu
  rcases hu with rfl | rfl | rfl | rfl | rfl | rfl | rfl | rfl | rfl | rfl | rfl | rfl | rfl | rfl | rfl | rfl | rfl <;> rfl
theorem app_docs (ds : List DocV) (d : DocV) (hn : ds.length + 1 ≤ 1000000) :
    OpG Tryz.prog (isApp Tryz.prog DTs DTs) lenX [.raw 0 8, .raw 0 7] [] [((0, 8), .fam (docsQ ds)), ((0, 7), .row 76 17 1 (.deep (docS d (.raw 0 1) (.raw 0 2) (.raw 0 3))) []), ((0, 1), legR d.s.legs.length d.s.legs), ((0, 2), taxR d.s.taxes.length d.s.taxes), ((0, 3), i64R d.vals.length d.vals)] (.raw 1 0) [((1, 0), .fam (docsQ (d :: ds)))] := by
  intro o ho
  obtain ⟨c, y, z, ho, hc, ha, hat, hx⟩ := isApp_of ho
  rw [hx]
  obtain ⟨ie, zv, hi', hz, hsz, hzs, h0, hb⟩ := infoB_of (P := Tryz.prog) (e := 76) (size := 17) (by kernel_rfl)
  refine ⟨fun q hq => by rw [ho]; simp [Op.operands, Call.operands, hc, ha]; simpa using hq, fun ε ρ R w hx hM => ?_⟩
  simp only [List.map_cons, List.map_nil, SV.dens, SV.den, List.cons.injEq, and_true] at hx
  obtain ⟨hx, hy⟩ := hx
  have hM : Mem (docsQ ds (ε 0 8).1 (ε 0 8).2 :: rowC 76 17 (asSl (ε 0 7).2) 1 (SV.dens ε (docS d (.raw 0 1) (.raw 0 2) (.raw 0 3))) :: rowC 43 3 (asSl (ε 0 1).2) d.s.legs.length (cellsL encLeg d.s.legs) :: rowC 126 2 (asSl (ε 0 2).2) d.s.taxes.length (cellsL encTax d.s.taxes) :: rowC 2 1 (asSl (ε 0 3).2) d.vals.length (d.vals.map (.int .i64)) :: R) w := hM
  obtain ⟨la, lc, hvl, okl⟩ := row_sl (hM.owns 2 rfl)
  obtain ⟨ta, tc, hvt, okt⟩ := row_sl (hM.owns 3 rfl)
  obtain ⟨va, vc, hvv, okv⟩ := row_sl (hM.owns 4 rfl)
  have hA : SV.dens ε (docS d (.raw 0 1) (.raw 0 2) (.raw 0 3)) = docL (d, ⟨la, lc, ta, tc, va, vc⟩) := by
    simp only [SV.dens, SV.den, docS, docL, hvl, hvt, hvv]
  rw [hA, hvl, hvt, hvv] at hM
  obtain ⟨⟨L, hL⟩, hM⟩ := hM.ex
  have hM : Mem (rowC 76 17 (asSl (ε 0 8).2) L.length (cellsDR L) :: rowsC L :: rowC 76 17 (asSl (ε 0 7).2) 1 (docL (d, ⟨la, lc, ta, tc, va, vc⟩)) :: rowC 43 3 (.slice la d.s.legs.length lc) d.s.legs.length (cellsL encLeg d.s.legs) :: rowC 126 2 (.slice ta d.s.taxes.length tc) d.s.taxes.length (cellsL encTax d.s.taxes) :: rowC 2 1 (.slice va d.vals.length vc) d.vals.length (d.vals.map (.int .i64)) :: R) w := hM.all
  have hr := hM.owns 2 rfl
  obtain ⟨a, cp, hv, hrow, -⟩ := hr.row
  have hS : Go.Src Tryz.prog 17 DTs (asSl (ε 0 7).2) 1 (docL (d, ⟨la, lc, ta, tc, va, vc⟩)) w := by
    rw [hv]
    cases a with
    | none =>
      obtain ⟨b, off, h, -⟩ := hrow 0 (by show 0 < 17; decide)
      cases h
    | some ad => exact Go.Src.ofSlice (P := Tryz.prog) w Tryz.underlying70 ad 1 cp _ rfl (fun j u' hj => by
        have hjl := (List.getElem?_eq_some_iff.1 hj).1
        obtain ⟨b, off, hab, hcell⟩ := hrow j hjl
        cases hab
        have : (Addr.add ⟨b, off, none⟩ j) = ⟨b, off + j, none⟩ := addr_add b off j
        rw [this, hcell, List.getD_eq_getElem?_getD, hj]; rfl) (docL_one _)
  have hl : L.length = ds.length := by rw [← hL, List.length_map]
  have hA2 := apps_src (P := Tryz.prog) DTs DTs o.type 76 17 ie.bytes L.length 1 zv Tryz.underlying70 (by rw [hi']; simp [hz, hsz]) hS (by simp only [maxLen]; omega) (by
    have : (L.length + 1) * ie.bytes ≤ 1000000 * 131072 := Nat.mul_le_mul (by omega) hb
    omega)
  obtain ⟨v', w', hr, hm⟩ := Mem.apps hM 0 rfl hA2 hzs (by simp only [maxLen]; omega)
  have hm : Mem (rowC 76 17 v' (L.length + 1) (cellsDR L ++ docL (d, ⟨la, lc, ta, tc, va, vc⟩)) :: rowsC L :: rowC 76 17 (asSl (ε 0 7).2) 1 (docL (d, ⟨la, lc, ta, tc, va, vc⟩)) :: rowC 43 3 (.slice la d.s.legs.length lc) d.s.legs.length (cellsL encLeg d.s.legs) :: rowC 126 2 (.slice ta d.s.taxes.length tc) d.s.taxes.length (cellsL encTax d.s.taxes) :: rowC 2 1 (.slice va d.vals.length vc) d.vals.length (d.vals.map (.int .i64)) :: R) w' := hm
  have hv' : asSl v' = v' := asSl_self (hm.owns 0 rfl)
  refine res_ok (x_append ho hc ha hat hx hy hr) ⟨fun _ => (0, v'), by simp only [SV.den, eset_at]; exact hv'.symm, ?_⟩
  have h3 := hm.tail.front 1 rfl
  have h4 := h3.tail
  have h5 := rows_join (p := (d, ⟨la, lc, ta, tc, va, vc⟩)) h4
  have h6 : Mem (rowsC ((d, ⟨la, lc, ta, tc, va, vc⟩) :: L) :: rowC 76 17 v' (L.length + 1) (cellsDR L ++ docL (d, ⟨la, lc, ta, tc, va, vc⟩)) :: R) w' := by
    have g1 := hm.front 2 rfl
    have g2 := g1.tail
    have g3 := mem_perm (List.Perm.swap _ _ _) g2
    have g4 := g3
    have g5 : Mem (rowsC L :: rowC 43 3 (.slice la d.s.legs.length lc) d.s.legs.length (cellsL encLeg d.s.legs) :: rowC 126 2 (.slice ta d.s.taxes.length tc) d.s.taxes.length (cellsL encTax d.s.taxes) :: rowC 2 1 (.slice va d.vals.length vc) d.vals.length (d.vals.map (.int .i64)) :: rowC 76 17 v' (L.length + 1) (cellsDR L ++ docL (d, ⟨la, lc, ta, tc, va, vc⟩)) :: R) w' := by
      refine mem_perm ?_ g4
      exact List.Perm.cons _ ((List.Perm.swap _ _ _).trans (List.Perm.cons _ ((List.Perm.swap _ _ _).trans (List.Perm.cons _ (List.Perm.swap _ _ _)))))
    exact rows_join (p := (d, ⟨la, lc, ta, tc, va, vc⟩)) g5
  have h7 := mem_perm (List.Perm.swap _ _ _) h6
  show Mem (docsQ (d :: ds) (eset ε 1 (fun _ => (0, v')) 1 0).1 (eset ε 1 (fun _ => (0, v')) 1 0).2 :: R) w'
  rw [eset_at]
  refine Mem.in_ex ⟨(d, ⟨la, lc, ta, tc, va, vc⟩) :: L, by rw [List.map_cons, hL]⟩ (Mem.in_all (l := [_, _]) ?_)
  show Mem (rowC 76 17 (asSl v') (L.length + 1) (cellsDR L ++ docL (d, ⟨la, lc, ta, tc, va, vc⟩)) :: rowsC ((d, ⟨la, lc, ta, tc, va, vc⟩) :: L) :: R) w'
  rw [hv']
  exact h7
end Go.Proofs.YtdnaegleifhmgaaGreat
end
section
namespace Go.Proofs.YtdnaegleifhmgaaGreat
open Go.RowKit Go.Lib Go.Tk Go.Shelf Go.Vc Go.Sx Go.Maps Go.Sort
def encD (L : List (DocV × DocA)) (t : Tid) : List Value := docL ({ (dAt L t).1 with t := t }, (dAt L t).2)
def SortDF : Nat := 39
theorem cmpD_lays (L : List (DocV × DocA)) (blk off size : Nat) (w : World) : CmpLays Tryz.prog 40 #[] (encD L) 17 cfT blk off size w := by
  intro m os dk _ x y
  refine (docs1_any ({ (dAt L x).1 with t := x }, (dAt L x).2) ({ (dAt L y).1 with t := y }, (dAt L y).2) _).mono ?_
  rintro e w' ⟨rfl, h⟩
  exact ⟨rfl, h⟩
theorem sortD_c (L : List (DocV × DocA)) {ks ss : List Tid} (hp : ks.Perm ss) (hl : ss.length ≤ 1000000000) :
    CallOK Tryz.prog SortDF [.raw 0 0, .fn (.func Docs1F) [] []] [] [((0, 0), .row 76 17 ss.length (.shal (cellsL (encD L) ks)) [])] noS [((0, 0), .row 76 17 ss.length (.shal (cellsL (encD L) (sortBy cfT ss))) [])] :=
  sort_row (enc := encD L) (k := 17) (cf := cfT) (fun _ => rfl) swoT totT
    (fun w => AnyF.slices_SortFunc_none sortD none 0 _ w)
    (fun gb cap d W hH hgl hsz => AnyQ.slices_SortFunc_total sortD 17 Tryz.isAgg76 Tryz.sizeOf76 (encD L) (fun _ => rfl) (fun x v hv => docL_one _ v hv) cfT swoT Docs1F #[] gb 0 cap d W (enters_of Tryz.func40 (by kernel_rfl) rfl) (cmpD_lays L gb 0 _ W) hH hgl (by omega) totT) hp hl
theorem cellsDR_eq (L : List (DocV × DocA)) : ∀ l : List (DocV × DocA), (∀ p ∈ l, encD L p.1.t = docL p) → cellsDR l = cellsL (encD L) (l.map (·.1.t)).reverse
  | [], _ => rfl
  | p :: r, h => by
    show cellsDR r ++ docL p = _
    rw [cellsDR_eq L r (fun q hq => h q (List.mem_cons_of_mem _ hq)), ← h p List.mem_cons_self]
    unfold cellsL
    rw [List.map_cons, List.reverse_cons, List.map_append, List.flatten_append]
    simp
def docAtD (ds : List DocV) (t : Tid) : DocV := (lkD ds t).getD doc0
def dsL (B : LedV) : List DocV := (sortBy cfT (B.docs.map (·.t))).map (docAtD B.docs)
def docsP (ds : List DocV) : CF := fun _ v => exC fun (L : { L : List (DocV × DocA) // L.map (·.1) = ds }) => allC [rowC 76 17 (asSl v) L.1.length (cellsL docL L.1), rowsC L.1]
theorem dAt_mem {L : List (DocV × DocA)} (hn : ((docKV L).map (·.1)).Nodup) {p : DocV × DocA} (hp : p ∈ L) : dAt L p.1.t = p := dAt_some (lkt_of hn (List.mem_map.2 ⟨p, hp, rfl⟩))
theorem encD_of {L : List (DocV × DocA)} (hn : ((docKV L).map (·.1)).Nodup) {p : DocV × DocA} (hp : p ∈ L) : encD L p.1.t = docL p := by
  unfold encD
  rw [dAt_mem hn hp]
theorem docs_sorted {L : List (DocV × DocA)} {ds : List DocV} (hn : (ds.map (·.t)).Nodup) (hL : (L.map (·.1)).Perm ds) {v : Value} {R : List Chunk} {w : World}
    (h : Mem (rowC 76 17 v L.length (cellsL (encD L) (sortBy cfT (ds.map (·.t)))) :: rowsC L :: R) w) : Mem (rowC 76 17 v ((sortBy cfT (ds.map (·.t))).map (dAt L)).length (cellsL docL ((sortBy cfT (ds.map (·.t))).map (dAt L))) :: rowsC ((sortBy cfT (ds.map (·.t))).map (dAt L)) :: R) w ∧ ((sortBy cfT (ds.map (·.t))).map (dAt L)).map (·.1) = (sortBy cfT (ds.map (·.t))).map (docAtD ds) := by
  have hk : ((docKV L).map (·.1)).Nodup := by
    rw [docKV_map]
    exact (hL.map (·.t)).nodup_iff.2 hn
  have hpt : (L.map (·.1.t)).Perm (ds.map (·.t)) := by
    have := hL.map (·.t)
    rwa [List.map_map] at this
  have hs := sortBy_perm cfT (ds.map (·.t))
  have hmem : ∀ t ∈ sortBy cfT (ds.map (·.t)), dAt L t ∈ L ∧ (dAt L t).1.t = t := fun t ht => by
    obtain ⟨p, hp, rfl⟩ := List.mem_map.1 (hpt.mem_iff.2 (hs.mem_iff.1 ht))
    rw [dAt_mem hk hp]
    exact ⟨hp, rfl⟩
  have e1 : cellsL (encD L) (sortBy cfT (ds.map (·.t))) = cellsL docL ((sortBy cfT (ds.map (·.t))).map (dAt L)) := by
    unfold cellsL
    rw [List.map_map]
    congr 1
    refine List.map_congr_left fun t ht => ?_
    obtain ⟨h1, h2⟩ := hmem t ht
    have := encD_of hk h1
    rw [h2] at this
    exact this
  have e2 : ((sortBy cfT (ds.map (·.t))).map (dAt L)).length = L.length := by
    rw [List.length_map, hs.length_eq, List.length_map, ← hL.length_eq, List.length_map]
  refine ⟨?_, ?_⟩
  · rw [e2, ← e1]
    have h1 := mem_perm (List.Perm.swap _ _ _) h
    have h2 := h1.weaken (c' := rowsC ((sortBy cfT (ds.map (·.t))).map (dAt L))) fun S hS p hp => by
      obtain ⟨t, ht, rfl⟩ := List.mem_map.1 hp
      exact hS _ (hmem t ht).1
    exact mem_perm (List.Perm.swap _ _ _) h2
  · rw [List.map_map]
    refine List.map_congr_left fun t ht => ?_
    obtain ⟨h1, h2⟩ := hmem t ht
    show (dAt L t).1 = docAtD ds t
    unfold docAtD
    have hd : (dAt L t).1 ∈ ds := hL.mem_iff.1 (List.mem_map.2 ⟨_, h1, rfl⟩)
    obtain ⟨d, hd2⟩ := lkD_some (ds := ds) (t := t) (List.mem_map.2 ⟨_, hd, h2⟩)
    rw [hd2, Option.getD_some]
    exact nd_inj hn hd (lkD_mem hd2).1 (h2.trans (lkD_mem hd2).2.symm)
abbrev DocLd (B : LedV) := { L : List (DocV × DocA) // L.map (·.1) = B.docs }
def oldLd (B : LedV) (a : LedA) : Heap := [((0, 0), .box none [.val (.int .i64 B.n), .val (.map (some a.d)), .val (.map (some a.s))]), ((0, 2), .fam fun _ _ => mapT kidK slipW B.slips a.s undef)]
def rowD (n : Nat) (cs : List Value) : SC := .row 76 17 n (.shal cs) []
theorem docs_c (B : LedV) (hk : ∀ d ∈ B.docs, DocSmall d) (hn : (B.docs.map (·.t)).Nodup) (hl : B.docs.length ≤ 1000) :
    CallOK Tryz.prog DocsLF [.ptr 0 0 0] [] (ledC B) (.raw 1 0) (ledC B ++ [((1, 0), .fam (docsP (dsL B)))]) := by
  refine callOK_intro (by kernel_rfl) fun eb R => ?_
  refine go_open (X := LedA × DocLd B) (fun x => oldLd B x.1 ++ [((0, 1), .fam fun _ _ => mapC tidK x.1.d (ents docW (docKV x.2.1))), ((0, 5), .fam fun _ _ => rowsC x.2.1)])
    (fun ε w hM => by
      obtain ⟨a, h⟩ := Mem.ex hM
      have h2 := h.all.front 1 rfl
      obtain ⟨L, h3⟩ := Mem.ex h2
      have h4 := docs_split h3
      exact ⟨(a, L), (h4.front 3 rfl).front 3 rfl⟩) (fun x => by kernel_rfl) fun x => ?_
  obtain ⟨a, L, hL⟩ := x
  have hll : L.length ≤ 1000 := by have := congrArg List.length hL; rw [List.length_map] at this; omega
  have r1 := rangeG (P := Tryz.prog) (K := tidK) (t := DT) (m := a.d) (j := 1) (L := ents docW (docKV L)) Tryz.underlying81
  have d1 := next_doneG (P := Tryz.prog) (K := tidK) (m := a.d) (L := ents docW (docKV L))
  refine leaf_cut (rgK Tryz.prog DocsLF 4 []) [(0, .ptr 0 0 0), (3, .raw 1 8)] (oldLd B a ++ [((0, 1), .fam fun _ _ => mapC tidK a.d (ents docW (docKV L))), ((0, 5), .fam fun _ _ => rowsC L), ((1, 8), rowD 0 [])]) calNone false 400 [.stop 4] calNone_ok (by kernel_rfl) ?_
  refine go_open (X := Unit) (fun _ => [((1, 8), .fam (docsQ []))] ++ (oldLd B a ++ [((0, 1), .fam fun _ _ => mapC tidK a.d (ents docW (docKV L))), ((0, 5), .fam fun _ _ => rowsC L)])) (fun ε w hM => by
      have h1 := rows_nil (hM.front 4 rfl)
      have h2 := mem_perm (List.Perm.swap _ _ _) h1
      exact ⟨(), Mem.in_ex (f := fun (L : { L : List (DocV × DocA) // L.map (·.1) = [] }) => allC [rowC 76 17 (asSl (ε 1 8).2) L.1.length (cellsDR L.1), rowsC L.1]) ⟨[], rfl⟩ (Mem.in_all (l := [_, _]) h2)⟩) (fun _ => by kernel_rfl) fun _ => ?_
  refine go_loop (X := { x : List (Tid × (DocV × DocA)) × List (Tid × (DocV × DocA)) // (docKV L).Perm (x.1 ++ x.2) }) 0 [] (fun x => ([(0, .ptr 0 0 0), (3, .raw 1 8), (12, .ptr 1 9 0)],
      oldLd B a ++ [((0, 5), .fam fun _ _ => rowsC L), ((1, 9), .fam fun r _ => rngC tidK r a.d (ents docW (docKV L)) (ents docW x.1.2)), ((1, 8), .fam (docsQ (x.1.1.map (·.2.1))))]))
    (fun x => x.1.2.length) ⟨([], docKV L), List.Perm.refl _⟩ calNone false 400 [hG 4 4 r1] calNone_ok (by kernel_rfl) ?_
  rintro ⟨⟨done, left⟩, hd⟩ J hJ
  cases left with
  | cons x l =>
    have m1 := next_moreG (P := Tryz.prog) (K := tidK) (m := a.d) (L := ents docW (docKV L)) (left := ents docW (x :: l)) (by simp [ents])
    refine leaf_cut (rgK Tryz.prog DocsLF 6 [J]) [(0, .ptr 0 0 0), (3, .raw 1 8), (12, .ptr 1 9 0)]
      ([((1, 9), .fam fun r _ => exC fun (y : (Tid × Value) × List (Tid × Value)) => curC tidK r a.d (ents docW (docKV L)) (ents docW (x :: l)) y.1 y.2)] ++ (oldLd B a ++ [((0, 5), .fam fun _ _ => rowsC L), ((1, 8), .fam (docsQ (done.map (·.2.1))))]))
      calNone false 400 [hG 5 0 m1, .stop 6] calNone_ok (by kernel_rfl) ?_
    refine go_open (X := { y : (Tid × (DocV × DocA)) × List (Tid × (DocV × DocA)) // (x :: l).Perm (y.1 :: y.2) }) (fun y => [((1, 9), .fam fun r _ => curC tidK r a.d (ents docW (docKV L)) (ents docW (x :: l)) (y.1.1.1, docW y.1.1.2) (ents docW y.1.2))] ++ (oldLd B a ++ [((0, 5), .fam fun _ _ => rowsC L), ((1, 8), .fam (docsQ (done.map (·.2.1))))]))
      (fun ε w hM => by obtain ⟨y, h⟩ := cur_typed hM; exact ⟨y, h⟩) (fun y => by kernel_rfl) ?_
    rintro ⟨⟨⟨k, p⟩, l'⟩, hp⟩
    have hd' : (docKV L).Perm (((k, p) :: done) ++ l') := (hd.trans (List.Perm.append_left done hp)).trans List.perm_middle
    have hlt : l'.length < (x :: l).length := by have := hp.length_eq; simp only [List.length_cons] at this ⊢; omega
    have hmem : (k, p) ∈ docKV L := hd'.mem_iff.2 (by simp)
    obtain ⟨q, hq, hqe⟩ := List.mem_map.1 hmem
    injection hqe with e1 e2
    subst e2
    subst e1
    have hb : q.1 ∈ B.docs := by rw [← hL]; exact List.mem_map_of_mem hq
    have hbd : (done.map (·.2.1)).length + 1 ≤ 1000000 := by
      have h5 := hd'.length_eq
      unfold docKV at h5
      rw [List.length_map] at h5 ⊢
      simp only [List.length_append, List.length_cons] at h5
      omega
    have g1 := entryG (P := Tryz.prog) (K := tidK) (m := a.d) (L := ents docW (docKV L)) (left := ents docW (x :: l)) (left' := ents docW l') (p := (q.1.t, docW q)) (ks := .agg (tidS q.1.t)) (vs := .agg (docSA q.1 q.2)) (fun _ => rfl) (fun _ => rfl)
    have c3 := ccopied_rows L q hq (hk q.1 hb)
    have g2 := app_docs (done.map (·.2.1)) q.1 hbd
    exact leaf_round (lpK Tryz.prog DocsLF 0 []) false 400 [hG 6 0 g1, hC 7 2 c3, hG 7 4 g2] (hJ ⟨((q.1.t, q) :: done, l'), hd'⟩ hlt) (by kernel_rfl)
  | nil =>
    rw [List.append_nil] at hd
    have hds : (done.map (·.2.1)).Perm B.docs := by
      have := hd.map (·.2.1)
      unfold docKV at this
      rw [List.map_map] at this
      rw [← hL]
      exact this.symm
    refine leaf_cut (rgK Tryz.prog DocsLF 8 []) [(3, .raw 1 8)]
      (oldLd B a ++ [((0, 5), .fam fun _ _ => rowsC L), ((1, 9), .fam fun r _ => rngC tidK r a.d (ents docW (docKV L)) []), ((1, 8), .fam (docsQ (done.map (·.2.1))))])
      calNone false 400 [hG 5 0 d1, .stop 8] calNone_ok (by kernel_rfl) ?_
    refine go_open (X := { M : List (DocV × DocA) // M.map (·.1) = done.map (·.2.1) }) (fun M => [((1, 8), rowD (B.docs.map (·.t)).length (cellsL (encD M.1) (M.1.map (·.1.t)).reverse)), ((1, 7), .fam fun _ _ => rowsC M.1), ((0, 0), .fam (ledF B))]) (fun ε w hM => by
      have hM : Mem (boxE none (ε 0 0).1 #[.int .i64 B.n, .map (some a.d), .map (some a.s)] :: mapT kidK slipW B.slips a.s undef :: rowsC L :: rngC tidK (ε 1 9).1 a.d (ents docW (docKV L)) [] :: docsQ (done.map (·.2.1)) (ε 1 8).1 (ε 1 8).2 :: R) w := hM
      have h1 := (hM.front 3 rfl).weaken (c' := mapC tidK a.d (ents docW (docKV L))) fun S hS => ⟨hS.2.1, hS.2.2.map⟩
      have h2 : Mem (mapC tidK a.d (ents docW (docKV L)) :: rowsC L :: boxE none (ε 0 0).1 #[.int .i64 B.n, .map (some a.d), .map (some a.s)] :: mapT kidK slipW B.slips a.s undef :: docsQ (done.map (·.2.1)) (ε 1 8).1 (ε 1 8).2 :: R) w := by
        refine mem_perm ?_ h1
        exact List.Perm.cons _ ((List.Perm.cons _ (List.Perm.swap _ _ _)).trans (List.Perm.swap _ _ _))
      have h3 := docs_shut (v := undef) h2
      have h4 : Mem (docsX B.docs a.d undef :: boxE none (ε 0 0).1 #[.int .i64 B.n, .map (some a.d), .map (some a.s)] :: mapT kidK slipW B.slips a.s undef :: docsQ (done.map (·.2.1)) (ε 1 8).1 (ε 1 8).2 :: R) w := Mem.in_ex ⟨L, hL⟩ h3
      have h5 := mem_perm (List.Perm.swap _ _ _) h4
      have h6 : Mem (ledF B (ε 0 0).1 (ε 0 0).2 :: docsQ (done.map (·.2.1)) (ε 1 8).1 (ε 1 8).2 :: R) w := Mem.in_ex (f := fun y : LedA => allC [boxE none (ε 0 0).1 #[.int .i64 B.n, .map (some y.d), .map (some y.s)], docsX B.docs y.d undef, mapT kidK slipW B.slips y.s undef]) a (Mem.in_all (l := [_, _, _]) h5)
      obtain ⟨M, h7⟩ := (mem_perm (List.Perm.swap _ _ _) h6).ex
      have h8 : Mem (rowC 76 17 (asSl (ε 1 8).2) M.1.length (cellsDR M.1) :: rowsC M.1 :: ledF B (ε 0 0).1 (ε 0 0).2 :: R) w := h7.all
      have hM2 : (M.1.map (·.1)).Perm B.docs := by rw [M.2]; exact hds
      have hkM : ((docKV M.1).map (·.1)).Nodup := by rw [docKV_map]; exact (hM2.map (·.t)).nodup_iff.2 hn
      rw [cellsDR_eq M.1 M.1 fun p hp => encD_of hkM hp] at h8
      have e9 : M.1.length = (B.docs.map (·.t)).length := by rw [List.length_map, ← hM2.length_eq, List.length_map]
      rw [e9] at h8
      exact ⟨M, h8⟩) (fun _ => by kernel_rfl) ?_
    rintro ⟨M, hM1⟩
    have hM2 : (M.map (·.1)).Perm B.docs := by rw [hM1]; exact hds
    have hpm : (M.map (·.1.t)).reverse.Perm (B.docs.map (·.t)) := by
      have := hM2.map (·.t)
      rw [List.map_map] at this
      exact (List.reverse_perm _).trans this
    have c1 := sortD_c M hpm (by rw [List.length_map]; omega)
    refine leaf_cut (rgK Tryz.prog DocsLF 9 []) [(3, .raw 1 8)] [((1, 8), rowD (B.docs.map (·.t)).length (cellsL (encD M) (sortBy cfT (B.docs.map (·.t))))), ((1, 7), .fam fun _ _ => rowsC M), ((0, 0), .fam (ledF B))] calNone false 400 [hC 8 1 c1, .stop 9] calNone_ok (by kernel_rfl) ?_
    refine go_open (X := Unit) (fun _ => [((1, 8), .fam (docsP (dsL B))), ((0, 0), .fam (ledF B))]) (fun ε w hM => ⟨(), by
      have h1 : Mem (rowC 76 17 (asSl (ε 1 8).2) (B.docs.map (·.t)).length (cellsL (encD M) (sortBy cfT (B.docs.map (·.t)))) :: rowsC M :: ledF B (ε 0 0).1 (ε 0 0).2 :: R) w := hM
      have e9 : (B.docs.map (·.t)).length = M.length := by rw [List.length_map, ← hM2.length_eq, List.length_map]
      rw [e9] at h1
      obtain ⟨h2, h3⟩ := docs_sorted hn hM2 h1
      exact Mem.in_ex (f := fun (L : { L : List (DocV × DocA) // L.map (·.1) = dsL B }) => allC [rowC 76 17 (asSl (ε 1 8).2) L.1.length (cellsL docL L.1), rowsC L.1]) ⟨_, h3⟩ (Mem.in_all (l := [_, _]) h2)⟩) (fun _ => by kernel_rfl) fun _ => ?_
    exact leaf_end calNone false 400 [] calNone_ok (by kernel_rfl)
end Go.Proofs.YtdnaegleifhmgaaGreat
end
section
namespace Go.Proofs.YtdnaegleifhmgaaGreat
open Go.RowKit Go.Lib Go.Tk Go.Sort Go.Shelf
def stB (s : Int) : Bool := decide (1 ≤ s) && decide (s ≤ 7)
theorem is_anyT (s : Int) (w : World) :
    Calls Tryz.prog 13 #[.int .u8 s] w fun e w' => e = .returned (.bool (stB s)) ∧ w = w' := by
  go_enter Tryz.func13, Tryz.ntmps13
  go_wp2
  all_goals (go_ret; refine ⟨ret_bool ?_, rfl⟩; unfold stB; rw [Bool.eq_iff_iff]; simp; omega)
theorem notIs_any (s : Int) (w : World) :
    Calls Tryz.prog 42 #[.int .u8 s] w fun e w' => e = .returned (.bool (!stB s)) ∧ w = w' := by
  go_enter Tryz.func42, Tryz.ntmps42
  go_wp2_with fail
  refine (is_anyT _ _).mono ?_
  rintro e w' ⟨rfl, rfl⟩
  go_wp2
  go_ret
  exact ⟨rfl, rfl⟩
theorem st_at {w : World} {a : Option Addr} {l : List Int} (h : Row w a (l.map (.int .u8))) {k : Nat} (hk : k < l.length) :
    ∃ b off, a = some ⟨b, off, none⟩ ∧ w.cell? ⟨b, off + k, none⟩ = some (.int .u8 l[k]) := by
  obtain ⟨b, off, hab, hc⟩ := h k (by simpa using hk)
  refine ⟨b, off, hab, ?_⟩
  rw [hc]; simp [List.getD_eq_getElem?_getD, hk]
set_option maxHeartbeats 1000000 in
theorem idxSt_any (l : List Int) (a : Option Addr) (m cap : Nat) (w : World) (hn : l.length = m) (hm : m ≤ 9223372036854775807) (hr : Row w a (l.map (.int .u8))) :
    Calls Tryz.prog 75 #[.slice a m cap, .func (.func 42) #[] #[]] w (IdxIs (l.any (fun s => !stB s)) w) := by
  subst hn
  have Hr := hid hr
  clear hr
  go_enter Tryz.func75, Tryz.ntmps75
  go_wp2
  go_loopw [8] (fun i wr => ∃ k : Nat, k ≤ l.length ∧ i = .int .i64 k ∧ Hid ((l.take k).any (fun s => !stB s) = false) ∧ Aside (Below w.heap.size w wr)) (fun i _ => l.length - (intOf i).toNat)
  case atStart => exact ⟨0, Nat.zero_le _, rfl, rfl, Below.refl _ _⟩
  case round =>
    obtain ⟨k, hk, rfl, H, B⟩ := hrel
    by_cases hlt2 : k < l.length
    · obtain ⟨b, off, rfl, c1⟩ := st_at (Hr.out.kept B.out) hlt2
      have HS := hid (any_take_succ (p := fun s => !stB s) hlt2)
      have HTq := hid (any_at (p := fun s => !stB s) hlt2)
      generalize l[k] = x at *
      have KEY := hid (notIs_any x wr)
      cases hp : stB x with
      | false =>
        have HU := hid (HTq.out (by rw [hp]; rfl))
        go_wp2_with fail
        refine KEY.out.mono ?_
        rintro e w2 ⟨rfl, rfl⟩
        rw [hp]
        clear hp
        go_wp2
        go_ret
        exact ⟨k, rfl, by rw [HU.out]; exact decide_eq_true (by omega), B.out⟩
      | true =>
        have HU := hid hp
        go_wp2_with fail
        refine KEY.out.mono ?_
        rintro e w2 ⟨rfl, rfl⟩
        rw [hp]
        clear hp
        go_wp2
        go_roundw
        case rel => exact ⟨k + 1, by omega, by go_num, hid (by rw [HS.out, H.out, HU.out]; rfl), B.out⟩
        case measure => simp [intOf]; omega
    · obtain rfl : k = l.length := by omega
      have HU := hid (show l.any (fun s => !stB s) = false by have := H.out; rw [List.take_length] at this; exact this)
      clear H
      go_wp2
      go_ret
      exact ⟨-1, rfl, by rw [HU.out]; decide, B.out⟩
set_option maxHeartbeats 400000 in
theorem hasSt_any (l : List Int) (a : Option Addr) (m cap : Nat) (w : World) (hn : l.length = m) (hm : m ≤ 9223372036854775807) (hr : Row w a (l.map (.int .u8))) :
    Calls Tryz.prog 41 #[.slice a m cap, .func (.func 42) #[] #[]] w fun e w' => e = .returned (.bool (l.any (fun s => !stB s))) ∧ Below w.heap.size w w' := by
  have KEY := hid (idxSt_any l a m cap w hn hm hr)
  clear hr hn
  go_enter Tryz.func41, Tryz.ntmps41
  go_wp2_with fail
  refine KEY.out.mono ?_
  rintro e w2 ⟨r, rfl, hr, hb2⟩
  have HR := hid hr
  clear hr
  go_wp2
  go_ret
  exact ⟨ret_bool (by first | exact HR.out | (rw [← HR.out])), hb2⟩
end Go.Proofs.YtdnaegleifhmgaaGreat
end
section
namespace Go.Proofs.YtdnaegleifhmgaaGreat
open Go.RowKit Go.Lib Go.Tk
structure TDocV where
  c : Int
  r : Int
  s : SaleV
  vals : List Int
  fc : Int
  fr : Int
  tc : Int
  tr : Int
  cred : Int
  paid : Int
  back : Int
  kept : Int
  left : Int
structure TDocA where
  S : SaleA
  va : Option Addr
  vc : Nat
def tdocArr (d : TDocV) (D : TDocA) : Array Value :=
  #[.int .u8 d.c, .int .u64 d.r, .string d.s.name, .slice D.S.la d.s.legs.length D.S.lc, .int .i64 d.s.fare, .slice D.S.ta d.s.taxes.length D.S.tc, .int .i64 d.s.pen, .slice D.va d.vals.length D.vc, .int .u8 d.fc, .int .u64 d.fr, .int .u8 d.tc, .int .u64 d.tr, .int .i64 d.cred, .int .i64 d.paid, .int .i64 d.back, .int .i64 d.kept, .int .i64 d.left]
def tdocAgg (d : TDocV) (D : TDocA) : Value := .agg (tdocArr d D)
structure TDocAt (w : World) (d : TDocV) (D : TDocA) : Prop where
  sale : SaleAt w d.s D.S
  vals : Row w D.va (d.vals.map (.int .i64))
theorem TDocAt.kept {w w' : World} {d : TDocV} {D : TDocA} (h : TDocAt w d D) (hb : Below w.heap.size w w') : TDocAt w' d D := ⟨h.sale.kept hb, h.vals.kept hb⟩
def lessZ (z : List (Int × Int)) : List Int := (z.filter (fun p => decide (p.1 ≤ 4))).map (·.2)
def lessL (vals st : List Int) : List Int := lessZ (st.zip vals)
theorem lessZ_snoc (z : List (Int × Int)) (p : Int × Int) : lessZ (z ++ [p]) = if p.1 ≤ 4 then lessZ z ++ [p.2] else lessZ z := by
  unfold lessZ
  by_cases h : p.1 ≤ 4
  · rw [if_pos h, List.filter_append, List.map_append]; simp [h]
  · rw [if_neg h, List.filter_append, List.map_append]; simp [h]
theorem zip_step {st vals : List Int} {k : Nat} (h1 : k < st.length) (h2 : k < vals.length) : (st.zip vals).take (k + 1) = (st.zip vals).take k ++ [(st[k], vals[k])] := by
  have h : k < (st.zip vals).length := by rw [List.length_zip]; omega
  rw [List.take_succ_eq_append_getElem h, List.getElem_zip]
theorem less_yes {st vals : List Int} {k : Nat} (h1 : k < st.length) (h2 : k < vals.length) (h : st[k] ≤ 4) : lessZ ((st.zip vals).take (k + 1)) = lessZ ((st.zip vals).take k) ++ [vals[k]] := by
  rw [zip_step h1 h2, lessZ_snoc, if_pos h]
theorem less_no {st vals : List Int} {k : Nat} (h1 : k < st.length) (h2 : k < vals.length) (h : ¬ st[k] ≤ 4) : lessZ ((st.zip vals).take (k + 1)) = lessZ ((st.zip vals).take k) := by
  rw [zip_step h1 h2, lessZ_snoc, if_neg h]
theorem less_all {st vals : List Int} (h : st.length = vals.length) : lessZ ((st.zip vals).take st.length) = lessL vals st := by
  unfold lessL; rw [List.take_of_length_le (by rw [List.length_zip]; omega)]
def subStep (s : Int × Int) (a : Int) : Int × Int := if s.2 = 0 then subI s.1 a else s
def subAll (s : Int × Int) (l : List Int) : Int × Int := l.foldl subStep s
theorem subAll_drop {s : Int × Int} {l : List Int} {k : Nat} (h : k < l.length) : subAll s (l.drop k) = subAll (subStep s l[k]) (l.drop (k + 1)) := by
  unfold subAll; rw [List.drop_eq_getElem_cons h]; rfl
def badSt (st : List Int) : Bool := st.any (fun s => !stB s)
def lessAll (d : TDocV) (st : List Int) : List Int := [d.back, d.kept, d.left] ++ lessL d.vals st
def balOk (d : TDocV) (st : List Int) (pl : Nat) : Prop := st.length = d.vals.length ∧ pl = d.vals.length ∧ badSt st = false
instance (d : TDocV) (st : List Int) (pl : Nat) : Decidable (balOk d st pl) := inferInstanceAs (Decidable (_ ∧ _ ∧ _))
def balI (d : TDocV) (st : List Int) (pl : Nat) : Int × Int := if balOk d st pl then subAll (sumFrom 0 [d.paid, d.cred]) (lessAll d st) else (0, 1)
theorem mem_less {vals st : List Int} {x : Int} (h : x ∈ lessL vals st) : x ∈ vals := by
  unfold lessL lessZ at h
  obtain ⟨p, hp, rfl⟩ := List.mem_map.1 h
  have h1 := (List.mem_filter.1 hp).1
  obtain ⟨a, b⟩ := p
  exact (List.of_mem_zip h1).2
end Go.Proofs.YtdnaegleifhmgaaGreat
end
section
namespace Go.Proofs.YtdnaegleifhmgaaGreat
open Go.RowKit Go.Lib Go.Tk Go.Sort Go.Shelf
def tdocBox (w : World) (b : Nat) (d : TDocV) (D : TDocA) : Prop := Box w b (tdocArr d D)
theorem tdocBox.kept {w w' : World} {b : Nat} {d : TDocV} {D : TDocA} (h : tdocBox w b d D) (hb : Below w.heap.size w w') : tdocBox w' b d D := Box.kept h hb
theorem tdocBox.vals {w : World} {b : Nat} {d : TDocV} {D : TDocA} (h : tdocBox w b d D) : w.cell? ⟨b, 7, none⟩ = some (.slice D.va d.vals.length D.vc) := Box.cell h 7 rfl
theorem tdocBox.cred {w : World} {b : Nat} {d : TDocV} {D : TDocA} (h : tdocBox w b d D) : w.cell? ⟨b, 12, none⟩ = some (.int .i64 d.cred) := Box.cell h 12 rfl
theorem tdocBox.paid {w : World} {b : Nat} {d : TDocV} {D : TDocA} (h : tdocBox w b d D) : w.cell? ⟨b, 13, none⟩ = some (.int .i64 d.paid) := Box.cell h 13 rfl
theorem tdocBox.back {w : World} {b : Nat} {d : TDocV} {D : TDocA} (h : tdocBox w b d D) : w.cell? ⟨b, 14, none⟩ = some (.int .i64 d.back) := Box.cell h 14 rfl
theorem tdocBox.keptC {w : World} {b : Nat} {d : TDocV} {D : TDocA} (h : tdocBox w b d D) : w.cell? ⟨b, 15, none⟩ = some (.int .i64 d.kept) := Box.cell h 15 rfl
theorem tdocBox.left {w : World} {b : Nat} {d : TDocV} {D : TDocA} (h : tdocBox w b d D) : w.cell? ⟨b, 16, none⟩ = some (.int .i64 d.left) := Box.cell h 16 rfl
theorem tint_at {k : IntKind} {w : World} {a : Option Addr} {l : List Int} (h : Row w a (l.map (.int k))) {i : Nat} (hi : i < l.length) :
    ∃ b off, a = some ⟨b, off, none⟩ ∧ w.cell? ⟨b, off + i, none⟩ = some (.int k l[i]) := by
  obtain ⟨b, off, hab, hc⟩ := h i (by simpa using hi)
  refine ⟨b, off, hab, ?_⟩
  rw [hc]; simp [List.getD_eq_getElem?_getD, hi]
set_option maxRecDepth 100000 in
set_option maxHeartbeats 4000000 in
theorem balance_no (d : TDocV) (D : TDocA) (st : List Int) (sa : Option Addr) (sc : Nat) (pa : Option Addr) (pl pc : Nat) (w : World) (hs : Row w sa (st.map (.int .u8)))
    (_ls : st.length ≤ 1000) (_lv : d.vals.length ≤ 1000) (lp : pl ≤ 1000) (hb : ¬ balOk d st pl) :
    Calls Tryz.prog 22 #[tdocAgg d D, .slice sa st.length sc, .slice pa pl pc] w fun e w' => e = .returned (.tuple #[.int .i64 0, .int .i64 1]) ∧ Below w.heap.size w w' := by
  have HS := hid hs
  clear hs
  unfold tdocAgg tdocArr
  by_cases h1 : st.length = d.vals.length
  case neg =>
    have q : ((st.length : Int) != (d.vals.length : Int)) = true := by rw [bne_iff_ne]; omega
    clear hb
    go_enter Tryz.func22, Tryz.ntmps22
    go_wp2_with fail
    go_ret2
    exact ⟨rfl, below_alloc _ _⟩
  case pos =>
  by_cases h2 : pl = d.vals.length
  case neg =>
    have q : ((st.length : Int) != (d.vals.length : Int)) = false := by simp [h1]
    have q2 : ((pl : Int) != (d.vals.length : Int)) = true := by rw [bne_iff_ne]; omega
    clear hb
    go_enter Tryz.func22, Tryz.ntmps22
    go_wp2_with fail
    go_ret2
    exact ⟨rfl, below_alloc _ _⟩
  case pos =>
    have q : ((st.length : Int) != (d.vals.length : Int)) = false := by simp [h1]
    have q2 : ((pl : Int) != (d.vals.length : Int)) = false := by simp [h2]
    have hbad : badSt st = true := by
      cases hq : badSt st with
      | true => rfl
      | false => exact absurd ⟨h1, h2, hq⟩ hb
    have HB := hid hbad
    have K := hid (fun w' (hb : Below w.heap.size w w') => hasSt_any st sa st.length sc w' rfl (by omega) (HS.out.kept hb))
    clear hb hbad h1 h2
    go_enter Tryz.func22, Tryz.ntmps22
    go_wp2_with fail
    refine (K.out _ (below_alloc _ _)).mono ?_
    rintro e w2 ⟨rfl, hb2⟩
    rw [show (st.any fun s => !stB s) = true from HB.out]
    have B2 := hid (bt (below_alloc _ _) hb2)
    clear hb2 K
    go_wp2
    go_ret2
    exact ⟨rfl, B2.out⟩
set_option maxRecDepth 100000 in
set_option maxHeartbeats 8000000 in
theorem balance_yes (d : TDocV) (D : TDocA) (st : List Int) (sa : Option Addr) (sc : Nat) (pa : Option Addr) (pl pc : Nat) (w : World) (hs : Row w sa (st.map (.int .u8))) (hd : Row w D.va (d.vals.map (.int .i64)))
    (lv : d.vals.length ≤ 1000) (hb : balOk d st pl) :
    Calls Tryz.prog 22 #[tdocAgg d D, .slice sa st.length sc, .slice pa pl pc] w fun e w' => e = .returned (.tuple #[.int .i64 (subAll (sumFrom 0 [d.paid, d.cred]) (lessAll d st)).1, .int .i64 (subAll (sumFrom 0 [d.paid, d.cred]) (lessAll d st)).2]) ∧ Below w.heap.size w w' := by
  have HS := hid hs
  have HV := hid hd
  obtain ⟨h1, h2, h3⟩ := hb
  have HB := hid h3
  have q : ((st.length : Int) != (d.vals.length : Int)) = false := by simp [h1]
  have q2 : ((pl : Int) != (d.vals.length : Int)) = false := by simp [h2]
  have K := hid (fun w' (hb : Below w.heap.size w w') => hasSt_any st sa st.length sc w' rfl (by omega) (HS.out.kept hb))
  have KS := hid (fun w' a c (hr : Row w' a ([d.paid, d.cred].map (.int .i64))) => sum_anyN a 2 c [d.paid, d.cred] w' rfl hr (by simp))
  obtain ⟨s0, hs0⟩ : ∃ s0, sumFrom 0 [d.paid, d.cred] = s0 := ⟨_, rfl⟩
  rw [hs0] at KS ⊢
  have H1 := hid h1
  obtain ⟨res, hres⟩ : ∃ res, subAll s0 (lessAll d st) = res := ⟨_, rfl⟩
  rw [hres]
  have HRES := hid hres
  clear hres
  clear hs hd h2 h3 hs0 h1
  obtain ⟨W1, hW1⟩ : ∃ W1, W1 = w.alloc (.cells (tdocArr d D) 76) := ⟨_, rfl⟩
  have xd1 : tdocBox W1 w.heap.size d D := by rw [hW1]; exact Box.new rfl
  have b1 : Below w.heap.size w W1 := by rw [hW1]; exact below_alloc _ _
  have HI := hid i64row3
  unfold tdocArr at hW1
  have HW := hid hW1
  clear hW1
  unfold tdocAgg tdocArr
  go_enter Tryz.func22, Tryz.ntmps22
  go_wp2_with fail
  rw [← HW.out]
  refine (K.out _ b1).mono ?_
  rintro e w2 ⟨rfl, hb2⟩
  rw [show (st.any fun s => !stB s) = false from HB.out]
  have xd2 := xd1.kept hb2
  have b2 := bt b1 hb2
  have XD2 := hid xd2
  have B2 := hid b2
  have k13 := xd2.paid
  have k12 := xd2.cred
  clear xd1 b1 hb2 HW K HB xd2 b2
  go_wp2_with fail
  refine (KS.out _ _ _ (row_new rfl)).mono ?_
  rintro e w3 ⟨rfl, hb3⟩
  have bb : Below w2.heap.size w2 w3 := bt (below_alloc _ _) hb3
  have xd3 := XD2.out.kept bb
  have B3 := hid (bt B2.out bb)
  have k14 := xd3.back
  have k15 := xd3.keptC
  have k16 := xd3.left
  have XD3 := hid xd3
  clear k13 k12 KS B2 XD2 hb3 bb xd3
  go_wp2
  go_loopw [10, 51] (fun s10 i wr => ∃ (k n : Nat) (v : Value) (L : List Int), k ≤ st.length ∧ i = .int .i64 k ∧ s10 = v ∧ n = L.length ∧ n ≤ 3 + k ∧ Hid (L = [d.back, d.kept, d.left] ++ lessZ ((st.zip d.vals).take k)) ∧ Aside (wr.ownsRow w3.heap.size 2 1 v n (L.map (.int .i64))) ∧ Aside (Below w3.heap.size w3 wr)) (fun _ i _ => st.length - (intOf i).toNat)
  case atStart =>
    refine ⟨0, 3, _, [d.back, d.kept, d.left], Nat.zero_le _, rfl, rfl, rfl, by omega, ?_, ?_, below_alloc _ _⟩
    · rw [List.take_zero]; rfl
    · have := World.ownsRow_lit (base := w3.heap.size) (e := 2) (size := 1) w3 #[.int .i64 d.back, .int .i64 d.kept, .int .i64 d.left] 3 (by simp) (by unfold maxLen; omega) rfl
      show World.ownsRow _ _ _ _ _ _ _
      simpa using this
  case round =>
    obtain ⟨k, n, v, L, hk, rfl, rfl, hn, hle, HL, O1, B1⟩ := hrel
    have hbs := B1.out.size
    by_cases hlt : k < st.length
    · have hv : k < d.vals.length := by have := H1.out; omega
      obtain ⟨b, off, rfl, c1⟩ := st_at (HS.out.kept (bt B3.out B1.out)) hlt
      have LY := hid (fun h => less_yes hlt hv h)
      have LN := hid (fun h => less_no hlt hv h)
      obtain ⟨b2, off2, hva, c2⟩ := tint_at (HV.out.kept (bt B3.out B1.out)) hv
      have kv := (XD3.out.kept B1.out).vals
      rw [hva] at kv
      generalize st[k] = x at *
      generalize d.vals[k] = y at *
      by_cases hx : x ≤ 4
      · have HX := hid hx
        have hm1 : n + 1 ≤ maxLen := by unfold maxLen; omega
        have hm8 : (n + 1) * 8 ≤ 140737488355328 := by omega
        go_wp2_with (at_builtin; refine wpList_append_row_at rfl _ _ 74 rfl w3.heap.size 2 (.int .i64 0) 1 8 Tryz.underlying74 HI.out rfl (by decide) _ n _ rfl (World.ownsRow.alloc O1.out _) _ 1 1 [.int .i64 y] rfl (by simp) (row_new (by simp)) rfl (by simp [Value.oneCell']) hm1 hm8 (by simp; omega) ?_; intro v1 w4 ho1 hg1 hat1)
        have hg1' : (wr.alloc (.cells #[.int .i64 y] 2)).grownBy w4 u10.ownBlock := hg1
        have B4 : Aside (Below w3.heap.size w3 w4) := (B1.out.alloc B1.out.size _).grown hg1' (by simp; omega) (fun g e => (World.ownsRow.lt O1.out g e).1)
        have O4 : Aside (w4.ownsRow w3.heap.size 2 1 v1 (n + 1) ((L ++ [y]).map (.int .i64))) := by
          show World.ownsRow _ _ _ _ _ _ _
          rw [List.map_append]; exact ho1
        clear hg1 hg1' hat1 ho1 O1 B1 c1 c2 kv
        go_roundw
        case measure => simp [intOf]; omega
        case rel => exact ⟨_, _, _, _, ⟨k + 1, by omega, by go_num, n + 1, L ++ [y], by simp [hn], by omega, hid (by rw [HL.out, LY.out HX.out]; simp), O4, B4⟩, rfl, rfl, rfl, rfl⟩
      · have HX := hid hx
        go_wp2
        go_roundw
        case measure => simp [intOf]; omega
        case rel => exact ⟨k + 1, n, _, L, by omega, by go_num, rfl, hn, by omega, hid (by rw [HL.out, LN.out HX.out]), O1, B1⟩
    · obtain rfl : k = st.length := by omega
      obtain ⟨a', cap', hv, hr', -⟩ := row_of_owns (show wr.ownsRow w3.heap.size 2 1 u10 n _ from O1.out)
      subst hv
      have hL : L = lessAll d st := by rw [HL.out]; unfold lessAll; rw [less_all H1.out]
      have HR := hid hr'
      have HF := hid (show subAll s0 L = res by rw [hL]; exact HRES.out)
      have BR := hid (bt B3.out B1.out)
      have hL3 : L.length ≤ 1003 := by have := H1.out; omega
      subst hn
      obtain ⟨wl, hwl⟩ : ∃ wl, wl = wr := ⟨_, rfl⟩
      subst hwl
      clear HRES HL hL O1 B1 hr' k14 k15 k16 XD3 B3 HS HV HI hbs hk H1
      obtain ⟨o0, e0⟩ := s0
      go_wp2
      go_loopw [8, 9, 69] (fun s8 s9 i wr => ∃ (k : Nat) (o e : Int), k ≤ L.length ∧ i = .int .i64 k ∧ s8 = .int .i64 o ∧ s9 = .int .i64 e ∧ Hid (subAll (o0, e0) L = subAll (o, e) (L.drop k)) ∧ Aside (Below wl.heap.size wl wr)) (fun _ _ i _ => L.length - (intOf i).toNat)
      case atStart => exact ⟨0, o0, e0, Nat.zero_le _, rfl, rfl, rfl, rfl, Below.refl _ _⟩
      case round =>
        obtain ⟨k, o, e, hk, rfl, rfl, rfl, HE, BQ⟩ := hrel
        by_cases hlt : k < L.length
        · obtain ⟨b, off, rfl, c1⟩ := tint_at (HR.out.kept BQ.out) hlt
          have HD := hid (subAll_drop (s := (o, e)) hlt)
          generalize L[k] = x at *
          by_cases he : e = 0
          · subst he
            have HD2 := hid (show subAll (o, 0) (L.drop k) = subAll (subI o x) (L.drop (k + 1)) from HD.out)
            clear HD
            have KK := hid (sub_any o x wr)
            go_wp2_with fail
            refine KK.out.mono ?_
            rintro e' w5 ⟨rfl, hb5⟩
            go_wp2
            go_roundw
            case measure => simp [intOf]; omega
            case rel => exact ⟨k + 1, (subI o x).1, (subI o x).2, by omega, by go_num, rfl, rfl, hid (HE.out.trans HD2.out), bt BQ.out hb5⟩
          · have q3 : (e == 0) = false := by simpa using he
            have HD2 := hid (show subAll (o, e) (L.drop k) = subAll (o, e) (L.drop (k + 1)) by rw [HD.out]; unfold subStep; rw [if_neg he])
            clear HD
            go_wp2
            go_roundw
            case measure => simp [intOf]; omega
            case rel => exact ⟨k + 1, o, e, by omega, by go_num, rfl, rfl, hid (HE.out.trans HD2.out), BQ⟩
        · obtain rfl : k = L.length := by omega
          have HZ := hid (show res = (o, e) by rw [← HF.out, HE.out, List.drop_length]; rfl)
          go_wp2
          go_ret2
          refine ⟨?_, bt BR.out BQ.out⟩
          rw [HZ.out]
          rfl
theorem balance_anyV (d : TDocV) (D : TDocA) (st : List Int) (sa : Option Addr) (sn sc : Nat) (pa : Option Addr) (pl pc : Nat) (w : World) (hn : st.length = sn) (hs : Row w sa (st.map (.int .u8))) (hd : Row w D.va (d.vals.map (.int .i64)))
    (ls : st.length ≤ 1000) (lv : d.vals.length ≤ 1000) (lp : pl ≤ 1000) :
    Calls Tryz.prog 22 #[tdocAgg d D, .slice sa sn sc, .slice pa pl pc] w fun e w' => e = .returned (.tuple #[.int .i64 (balI d st pl).1, .int .i64 (balI d st pl).2]) ∧ Below w.heap.size w w' := by
  subst hn
  unfold balI
  by_cases hb : balOk d st pl
  · rw [if_pos hb]; exact balance_yes d D st sa sc pa pl pc w hs hd lv hb
  · rw [if_neg hb]; exact balance_no d D st sa sc pa pl pc w hs ls lv lp hb
end Go.Proofs.YtdnaegleifhmgaaGreat
end
section
namespace Go.Proofs.YtdnaegleifhmgaaGreat
open Go.RowKit Go.Lib Go.Tk Go.Shelf Go.Vc Go.Sx
def toT (d : DocV) : TDocV := ⟨d.t.c, d.t.r, d.s, d.vals, d.frm.c, d.frm.r, d.dst.c, d.dst.r, d.credit, d.paid, d.back, d.kept, d.left⟩
def TBalF : Nat := 22
end Go.Proofs.YtdnaegleifhmgaaGreat
end
section
namespace Go.Proofs.YtdnaegleifhmgaaGreat
open Go.RowKit Go.Lib Go.Tk Go.Shelf Go.Vc Go.Sx
theorem subAll_dn : ∀ (l : List Int) (x : Int), (∀ y ∈ l, 0 ≤ y) → l.sum ≤ x → x ≤ 1125899906842624 → subAll (x, 0) l = (x - l.sum, 0)
  | [], x, _, _, _ => by simp [subAll]
  | a :: l, x, h, hs, hx => by
    have ha := h a (by simp)
    have hl : ∀ y ∈ l, 0 ≤ y := fun y hy => h y (by simp [hy])
    have hn := sum_nonneg l hl
    rw [List.sum_cons] at hs
    have e : subStep (x, 0) a = (x - a, 0) := by
      unfold subStep subI
      have m1 : mayI x = true := by simp [mayI]; omega
      have m2 : mayI a = true := by simp [mayI]; omega
      have m3 : mayI (x - a) = true := by simp [mayI]; omega
      simp [m1, m2, m3]
    show subAll (subStep (x, 0) a) l = _
    rw [e, subAll_dn l (x - a) hl (by omega) (by omega), List.sum_cons]
    congr 1
    omega
theorem less_op : ∀ L : List OwnV, (lessL (L.map (·.k.v)) (L.map (·.k.s))).sum = opL L
  | [] => rfl
  | o :: L => by
    have ih := less_op L
    unfold lessL lessZ opL at ih ⊢
    rw [List.map_cons, List.map_cons, List.zip_cons_cons]
    by_cases h : o.k.s ≤ 4
    · rw [List.filter_cons_of_pos (by simp [h]), List.filter_cons_of_pos (by simp [h]), List.map_cons, List.map_cons, List.sum_cons, List.sum_cons, ih]
    · rw [List.filter_cons_of_neg (by simp [h]), List.filter_cons_of_neg (by simp [h]), ih]
theorem bal_val {d : DocV} {L : List OwnV} (h : DocI d L) (hb : d.paid + d.credit ≤ 1125899906842624) (h0 : 0 ≤ mD d L + d.credit) : balI (toT d) (L.map (·.k.s)) L.length = (mD d L + d.credit, 0) := by
  have hp := h.paid
  have hk := h.kept
  have hbk := h.back
  have hl := h.left
  have hlc := h.leftc
  have hv : (toT d).vals = L.map (·.k.v) := h.vals.symm
  have hok : balOk (toT d) (L.map (·.k.s)) L.length := by
    refine ⟨by rw [hv]; simp, by rw [hv]; simp, ?_⟩
    unfold badSt
    rw [List.any_eq_false]
    intro x hx
    obtain ⟨o, ho, rfl⟩ := List.mem_map.1 hx
    have := h.st o ho
    have e : stB o.k.s = true := by simp [stB]; omega
    rw [e]; decide
  unfold balI
  rw [if_pos hok]
  have e : sumFrom 0 [(toT d).paid, (toT d).cred] = (d.paid + d.credit, 0) := by
    rw [sumFrom_nn _ 0 (by decide) (by omega) (fun x hx => ?_)]
    · have : mayI (0 + [(toT d).paid, (toT d).cred].sum) = true := by simp [mayI, toT]; omega
      rw [if_pos this]
      simp [toT]
    · simp only [List.mem_cons, List.not_mem_nil, or_false] at hx
      rcases hx with rfl | rfl
      · exact hp
      · show 0 ≤ d.credit
        omega
  have hm : mD d L = d.paid - d.back - d.kept - d.left - opL L := rfl
  have hs : (lessAll (toT d) (L.map (·.k.s))).sum = d.back + d.kept + d.left + opL L := by
    unfold lessAll
    rw [hv, List.sum_append, less_op]
    simp [toT]; omega
  rw [e, subAll_dn, hs]
  · congr 1; omega
  · intro y hy
    unfold lessAll at hy
    rw [List.mem_append] at hy
    rcases hy with hy | hy
    · simp only [List.mem_cons, List.not_mem_nil, or_false] at hy
      rcases hy with rfl | rfl | rfl
      · exact hbk
      · exact hk
      · exact hl
    · have := mem_less hy
      rw [hv, h.vals] at this
      exact h.nn y this
  · rw [hs]; omega
  · exact hb
structure DocG (B : BookV) (d : DocV) (w : Int) : Prop where
  bal : balI (toT d) (statusL B d.t) (statusL B d.t).length = (w, 0)
  paid : 0 ≤ d.paid ∧ d.paid ≤ 35184372088832
  back : 0 ≤ d.back ∧ d.back ≤ 35184372088832
  kept : 0 ≤ d.kept ∧ d.kept ≤ 35184372088832
  left : 0 ≤ d.left ∧ d.left ≤ 35184372088832
  op : 0 ≤ opL (coupL B d.t) ∧ opL (coupL B d.t) ≤ 35184372088832
  leftc : d.left ≤ d.credit
  vals : (coupL B d.t).map (·.k.v) = d.vals
theorem docG_of {B : BookV} (h : EB B) {d : DocV} (hd : d ∈ B.docs) {w : Int} (e : mD d (coupL B d.t) + d.credit = w) (hw : 0 ≤ w) : DocG B d w := by
  have hi := h.ei.doc d hd
  have hr := doc_r h.ex.bk hd
  have hm := h.ex.bk.many
  have hb := hi.bnd
  have h32 : 1099511627776 * d.t.r ≤ 35184372088832 := by omega
  have := hi.paid
  have := hi.back
  have := hi.kept
  have := hi.left
  have hlc := hi.leftc
  have hop := opL_nn hi
  have hmd : mD d (coupL B d.t) = d.paid - d.back - d.kept - d.left - opL (coupL B d.t) := rfl
  refine ⟨?_, by omega, by omega, by omega, by omega, by omega, hlc, hi.vals⟩
  have := bal_val hi (by omega) (by omega)
  rw [e] at this
  unfold statusL
  rw [List.length_map]
  exact this
theorem EB.non {B : BookV} (h : EB B) {d : DocV} (hd : d ∈ B.docs) (h0 : d.dst = tid0) : DocG B d 0 := docG_of h hd (h.ei.non d hd h0) (Int.le_refl _)
theorem lkD_mem_eq {ds : List DocV} (hn : (ds.map (·.t)).Nodup) {n : DocV} (h : n ∈ ds) : lkD ds n.t = some n := by
  obtain ⟨x, hx⟩ := lkD_some (List.mem_map_of_mem (f := fun d : DocV => d.t) h)
  obtain ⟨h1, h2⟩ := lkD_mem hx
  rw [hx, nodup_eq hn h1 h h2]
theorem EB.lnk {B : BookV} (h : EB B) {d : DocV} (hd : d ∈ B.docs) (h0 : d.dst ≠ tid0) : ∃ n, lkD B.docs d.dst = some n ∧ n.frm = d.t ∧ 0 ≤ n.credit ∧ DocG B d n.credit := by
  obtain ⟨n, hn, e1, e2, e3⟩ := h.ei.lnk d hd h0
  have hc : 0 ≤ n.credit := by have := (h.ei.doc n hn).left; have := (h.ei.doc n hn).leftc; omega
  exact ⟨n, by rw [← e1]; exact lkD_mem_eq h.nodup hn, e2, hc, docG_of h hd e3 hc⟩
def paidB (d : DocV) : Int := d.paid - d.back
def restB (B : BookV) (d : DocV) : Int := d.kept + d.left + opL (coupL B d.t)
theorem sum_sub {α : Type} (f g h : α → Int) : ∀ l : List α, (∀ x, h x = f x - g x) → (l.map h).sum = (l.map f).sum - (l.map g).sum
  | [], _ => rfl
  | x :: l, e => by simp only [List.map_cons, List.sum_cons, sum_sub f g h l e, e x]; omega
theorem EB.total {B : BookV} (h : EB B) : (B.docs.map paidB).sum = (B.docs.map (restB B)).sum := by
  have := sum_sub paidB (restB B) (fun d => mD d (coupL B d.t)) B.docs fun d => by unfold mD paidB restB; omega
  rw [h.ei.tot] at this
  omega
end Go.Proofs.YtdnaegleifhmgaaGreat
end
section
namespace Go.Proofs.YtdnaegleifhmgaaGreat
open Go.RowKit Go.Lib Go.Tk Go.Shelf Go.Vc Go.Sx Go.Maps Go.Sort
theorem sorted_ext {α : Type} {lt : α → α → Prop} (irr : ∀ x, ¬ lt x x) (tr : ∀ x y z, lt x y → lt y z → lt x z) : ∀ {a b : List α}, a.Pairwise lt → b.Pairwise lt → (∀ x, x ∈ a ↔ x ∈ b) → a = b
  | [], [], _, _, _ => rfl
  | [], y :: b, _, _, h => absurd ((h y).2 List.mem_cons_self) List.not_mem_nil
  | x :: a, [], _, _, h => absurd ((h x).1 List.mem_cons_self) List.not_mem_nil
  | x :: a, y :: b, ha, hb, h => by
    rw [List.pairwise_cons] at ha hb
    have e : x = y := by
      rcases List.mem_cons.1 ((h x).1 List.mem_cons_self) with e | hx
      · exact e
      · rcases List.mem_cons.1 ((h y).2 List.mem_cons_self) with e | hy
        · exact e.symm
        · exact absurd (tr _ _ _ (hb.1 x hx) (ha.1 y hy)) (irr _)
    subst e
    congr 1
    refine sorted_ext irr tr ha.2 hb.2 fun z => ?_
    constructor
    · intro hz
      rcases List.mem_cons.1 ((h z).1 (List.mem_cons_of_mem _ hz)) with e | q
      · subst e; exact absurd (ha.1 _ hz) (irr _)
      · exact q
    · intro hz
      rcases List.mem_cons.1 ((h z).2 (List.mem_cons_of_mem _ hz)) with e | q
      · subst e; exact absurd (hb.1 _ hz) (irr _)
      · exact q
def qF (S : SlipsV) (t : Tid) (m : Nat) : List PlaceV := (List.range m).map fun i : Nat => (sAt S ⟨t, (i : Int)⟩).p
theorem cS_range {B : LedV} (h : LedG B) {d : DocV} (hd : d ∈ B.docs) : cS B.slips d.t = (List.range d.vals.length).map fun i : Nat => toOw (sAt B.slips ⟨d.t, (i : Int)⟩) := by
  have h4 := h.ok.vals d hd
  have hall : ∀ i, i < d.vals.length → oAt B.slips d.t i = some (toOw (sAt B.slips ⟨d.t, (i : Int)⟩)) := fun i hi => by
    have e := lk_tot h hd i
    rw [decide_eq_true hi] at e
    unfold oAt
    rw [sAt_of e]; rfl
  have hno : ∀ i, ¬ i < d.vals.length → oAt B.slips d.t i = none := fun i hi => by
    have e := lk_tot h hd i
    rw [decide_eq_false hi] at e
    unfold oAt
    cases q : lkt B.slips ⟨d.t, (i : Int)⟩ with
    | none => rfl
    | some s => rw [q] at e; cases e
  unfold cS
  have e4 : List.range 4 = [0, 1, 2, 3] := rfl
  rw [e4]
  rcases (show d.vals.length = 0 ∨ d.vals.length = 1 ∨ d.vals.length = 2 ∨ d.vals.length = 3 ∨ d.vals.length = 4 by omega) with e | e | e | e | e
  all_goals
    rw [e] at hall hno ⊢
    simp only [List.range_succ, List.range_zero, List.nil_append, List.cons_append, List.map_cons, List.map_nil]
  · simp only [List.filterMap_cons, hno 0 (by decide), hno 1 (by decide), hno 2 (by decide), hno 3 (by decide), List.filterMap_nil]
  · simp only [List.filterMap_cons, hall 0 (by decide), hno 1 (by decide), hno 2 (by decide), hno 3 (by decide), List.filterMap_nil]
  · simp only [List.filterMap_cons, hall 0 (by decide), hall 1 (by decide), hno 2 (by decide), hno 3 (by decide), List.filterMap_nil]
  · simp only [List.filterMap_cons, hall 0 (by decide), hall 1 (by decide), hall 2 (by decide), hno 3 (by decide), List.filterMap_nil]
  · simp only [List.filterMap_cons, hall 0 (by decide), hall 1 (by decide), hall 2 (by decide), hall 3 (by decide), List.filterMap_nil]
theorem slip_key {B : LedV} (h : LedG B) {d : DocV} (hd : d ∈ B.docs) {i : Nat} (hi : i < d.vals.length) : lkt B.slips ⟨d.t, (i : Int)⟩ = some (sAt B.slips ⟨d.t, (i : Int)⟩) ∧ (sAt B.slips ⟨d.t, (i : Int)⟩).p.key = ⟨d.t, (i : Int)⟩ := by
  have e := lk_tot h hd i
  rw [decide_eq_true hi] at e
  have e2 := sAt_of e
  exact ⟨e2, (h.ok.key _ _ e2).1⟩
theorem qF_eq {B : LedV} (h : LedG B) {d : DocV} (hd : d ∈ B.docs) : (plL B).filter (fun p => decide (p.key.t = d.t)) = qF B.slips d.t d.vals.length := by
  refine sorted_ext (lt := fun a b : PlaceV => ltK a.key b.key) (fun x => ltK_irr _) (fun x y z => ltK_tr) ((plL_pw h).filter _) ?_ fun p => ?_
  · unfold qF
    rw [List.pairwise_map]
    refine (List.Pairwise.and_mem.1 List.pairwise_lt_range).imp fun {i j} q => ?_
    obtain ⟨hi, hj, hlt⟩ := q
    rw [(slip_key h hd (List.mem_range.1 hi)).2, (slip_key h hd (List.mem_range.1 hj)).2]
    unfold ltK
    refine .inr ⟨rfl, .inr ⟨rfl, ?_⟩⟩
    show (i : Int) < (j : Int)
    omega
  · rw [List.mem_filter, plL_mem h]
    constructor
    · rintro ⟨⟨s, e, rfl⟩, ht⟩
      have ht : s.p.key.t = d.t := of_decide_eq_true ht
      obtain ⟨d', hd', h1, h2, h3⟩ := (h.keys _).1 (show (lkt B.slips s.p.key).isSome = true by rw [e]; rfl)
      have e1 : d' = d := nd_inj h.ok.nodup hd' hd (h1.trans ht)
      subst e1
      unfold qF
      have ek : s.p.key = ⟨d'.t, ((s.p.key.i.toNat : Nat) : Int)⟩ := by
        cases hk : s.p.key with
        | mk kt ki =>
          rw [hk] at ht h2
          simp only at ht h2 ⊢
          rw [ht, Int.toNat_of_nonneg h2]
      refine List.mem_map.2 ⟨s.p.key.i.toNat, List.mem_range.2 (by omega), ?_⟩
      rw [← ek]
      unfold sAt
      rw [e]; rfl
    · intro q
      unfold qF at q
      obtain ⟨i, hi, rfl⟩ := List.mem_map.1 q
      obtain ⟨e1, e2⟩ := slip_key h hd (List.mem_range.1 hi)
      exact ⟨⟨_, by rw [e2]; exact e1, rfl⟩, by rw [e2]; exact decide_eq_true rfl⟩
structure MA where
  n : Nat
  sl : List Value
  pl : List Value
  r : Int
def maStep (t : Tid) (vals : List Int) (p : PlaceV) (σ : MA) : MA := bif ctEq p.key.t t then ⟨σ.n + 1, σ.sl ++ [.int .u8 p.st], σ.pl ++ [.bool p.paid], bif decide (p.st ≤ 4) then σ.r + vals.getD p.key.i.toNat 0 else σ.r⟩ else σ
def maN (l : List PlaceV) (t : Tid) (vals : List Int) (r : Int) : Nat → MA
  | 0 => ⟨0, [], [], r⟩
  | k + 1 => maStep t vals (pAt l k) (maN l t vals r k)
def opS (vals : List Int) (l : List PlaceV) : Int := ((l.filter fun p => decide (p.st ≤ 4)).map fun p => vals.getD p.key.i.toNat 0).sum
theorem opS_app (vals : List Int) (l m : List PlaceV) : opS vals (l ++ m) = opS vals l + opS vals m := by
  unfold opS
  rw [List.filter_append, List.map_append, List.sum_append]
theorem opS_one (vals : List Int) (p : PlaceV) : opS vals [p] = bif decide (p.st ≤ 4) then vals.getD p.key.i.toNat 0 else 0 := by
  unfold opS
  cases h : decide (p.st ≤ 4) with
  | false => rw [List.filter_cons_of_neg (by simpa using h)]; rfl
  | true =>
    rw [List.filter_cons_of_pos (by simpa using h)]
    simp only [List.filter_nil, List.map_cons, List.map_nil, List.sum_cons, List.sum_nil]
    exact Int.add_zero _
def tF (t : Tid) (l : List PlaceV) : List PlaceV := l.filter fun p => decide (p.key.t = t)
theorem ctEq_dec (a b : Tid) : ctEq a b = decide (a = b) := by
  by_cases h : a = b
  · rw [decide_eq_true h, (ctEq_iff a b).2 h]
  · rw [decide_eq_false h]
    cases e : ctEq a b with
    | false => rfl
    | true => exact absurd ((ctEq_iff a b).1 e) h
theorem maN_eq (l : List PlaceV) (t : Tid) (vals : List Int) (r : Int) : ∀ k, k ≤ l.length → maN l t vals r k = ⟨(tF t (l.take k)).length, (tF t (l.take k)).map (fun p => .int .u8 p.st), (tF t (l.take k)).map (fun p => .bool p.paid), r + opS vals (tF t (l.take k))⟩
  | 0, _ => by simp [maN, tF, opS]
  | k + 1, hk => by
    have hk' : k < l.length := by omega
    have e1 : l.take (k + 1) = l.take k ++ [pAt l k] := by
      rw [List.take_succ_eq_append_getElem hk']
      congr 2
      unfold pAt
      rw [List.getD_eq_getElem?_getD, List.getElem?_eq_getElem hk']; rfl
    show maStep t vals (pAt l k) (maN l t vals r k) = _
    rw [maN_eq l t vals r k (by omega), e1]
    unfold maStep tF
    rw [List.filter_append, ctEq_dec]
    by_cases h : (pAt l k).key.t = t
    · rw [decide_eq_true h, List.filter_cons_of_pos (by simpa using h), List.filter_nil]
      simp only [cond_true, List.length_append, List.length_cons, List.length_nil, List.map_append, List.map_cons, List.map_nil, opS_app, MA.mk.injEq, true_and]
      rw [opS_one]
      cases decide ((pAt l k).st ≤ 4)
      · show r + _ = r + (_ + 0)
        omega
      · show r + _ + vals.getD (pAt l k).key.i.toNat 0 = r + (_ + vals.getD (pAt l k).key.i.toNat 0)
        omega
    · rw [decide_eq_false h, List.filter_cons_of_neg (by simpa using h), List.filter_nil, List.append_nil]
      rfl
structure MoneyD (B : LedV) (d : DocV) (w : Int) : Prop where
  bal : balI (toT d) ((qF B.slips d.t d.vals.length).map (·.st)) (qF B.slips d.t d.vals.length).length = (w, 0)
  paid : 0 ≤ d.paid ∧ d.paid ≤ 35184372088832
  back : 0 ≤ d.back ∧ d.back ≤ 35184372088832
  kept : 0 ≤ d.kept ∧ d.kept ≤ 35184372088832
  left : 0 ≤ d.left ∧ d.left ≤ 35184372088832
  op : opS d.vals (qF B.slips d.t d.vals.length) = opL (cS B.slips d.t)
  opb : opL (cS B.slips d.t) ≤ 35184372088832
  nn : ∀ v ∈ d.vals, 0 ≤ v
theorem qF_sum {B : LedV} (h : EC B) {d : DocV} (hd : d ∈ B.docs) : (qF B.slips d.t d.vals.length).map (·.st) = (cS B.slips d.t).map (·.k.s) ∧ opS d.vals (qF B.slips d.t d.vals.length) = opL (cS B.slips d.t) := by
  have e := cS_range h.g hd
  have hv := (h.ei.doc d hd).vals
  rw [e] at hv ⊢
  constructor
  · unfold qF
    rw [List.map_map, List.map_map]; rfl
  · have hg : ∀ i, i < d.vals.length → d.vals.getD i 0 = (sAt B.slips ⟨d.t, (i : Int)⟩).v := fun i hi => by
      rw [List.map_map] at hv
      rw [← hv, List.getD_eq_getElem?_getD, List.getElem?_map, List.getElem?_range hi]; rfl
    unfold opS opL qF
    rw [List.filter_map, List.filter_map, List.map_map, List.map_map]
    congr 1
    have key : ∀ M : List Nat, (∀ i ∈ M, i < d.vals.length) → (M.filter ((fun p : PlaceV => decide (p.st ≤ 4)) ∘ fun i : Nat => (sAt B.slips ⟨d.t, (i : Int)⟩).p)).map ((fun p : PlaceV => d.vals.getD p.key.i.toNat 0) ∘ fun i : Nat => (sAt B.slips ⟨d.t, (i : Int)⟩).p) = (M.filter ((fun o : OwnV => decide (o.k.s ≤ 4)) ∘ fun i : Nat => toOw (sAt B.slips ⟨d.t, (i : Int)⟩))).map ((fun o : OwnV => o.k.v) ∘ fun i : Nat => toOw (sAt B.slips ⟨d.t, (i : Int)⟩)) := fun M hM => by
      have e2 : ((fun p : PlaceV => decide (p.st ≤ 4)) ∘ fun i : Nat => (sAt B.slips ⟨d.t, (i : Int)⟩).p) = ((fun o : OwnV => decide (o.k.s ≤ 4)) ∘ fun i : Nat => toOw (sAt B.slips ⟨d.t, (i : Int)⟩)) := rfl
      rw [e2]
      refine List.map_congr_left fun i hi => ?_
      have hi := hM i (List.mem_filter.1 hi).1
      show d.vals.getD (sAt B.slips ⟨d.t, (i : Int)⟩).p.key.i.toNat 0 = (sAt B.slips ⟨d.t, (i : Int)⟩).v
      rw [(slip_key h.g hd hi).2]
      show d.vals.getD ((i : Int).toNat) 0 = _
      rw [Int.toNat_natCast]
      exact hg i hi
    exact key _ fun i hi => List.mem_range.1 hi
theorem moneyD_of {B : LedV} (h : EC B) {d : DocV} (hd : d ∈ B.docs) {w : Int} (e : mD d (cS B.slips d.t) + d.credit = w) (hw : 0 ≤ w) : MoneyD B d w := by
  have hi := h.ei.doc d hd
  have hr := cdoc_r h.g hd
  have hm := h.g.cnt d.t.c
  have hb := hi.bnd
  have h32 : 1099511627776 * d.t.r ≤ 35184372088832 := by omega
  have := hi.paid
  have := hi.back
  have := hi.kept
  have := hi.left
  have hlc := hi.leftc
  have hop := opL_nn hi
  have hmd : mD d (cS B.slips d.t) = d.paid - d.back - d.kept - d.left - opL (cS B.slips d.t) := rfl
  obtain ⟨s1, s2⟩ := qF_sum h hd
  refine ⟨?_, by omega, by omega, by omega, by omega, s2, by omega, hi.nn⟩
  have := bal_val hi (by omega) (by omega)
  rw [e] at this
  have hl : (qF B.slips d.t d.vals.length).length = (cS B.slips d.t).length := by
    have := congrArg List.length s1
    rwa [List.length_map, List.length_map] at this
  rw [s1, hl]
  exact this
def wantK (ds : List DocV) (d : DocV) : Nat → Int
  | 0 => 0
  | k + 1 => bif !ctEq d.dst tid0 && ctEq (ds.getD k doc0).t d.dst then (ds.getD k doc0).credit else wantK ds d k
theorem wantK_0 (ds : List DocV) {d : DocV} (h : d.dst = tid0) : ∀ k, wantK ds d k = 0
  | 0 => rfl
  | k + 1 => by
    unfold wantK
    rw [(ctEq_iff _ _).2 h]
    exact wantK_0 ds h k
theorem wantK_1 {ds : List DocV} (hn : (ds.map (·.t)).Nodup) {d e : DocV} (he : e ∈ ds) (h0 : d.dst ≠ tid0) (ht : e.t = d.dst) : wantK ds d ds.length = e.credit := by
  obtain ⟨j, hj, rfl⟩ := List.getElem_of_mem he
  have gd : ∀ k (hk : k < ds.length), ds.getD k doc0 = ds[k] := fun k hk => by rw [List.getD_eq_getElem?_getD, List.getElem?_eq_getElem hk]; rfl
  have z : ctEq d.dst tid0 = false := by rw [ctEq_dec]; exact decide_eq_false h0
  have key : ∀ k, k ≤ ds.length → wantK ds d k = if j < k then ds[j].credit else 0 := by
    intro k
    induction k with
    | zero => intro _; rfl
    | succ k ih =>
      intro hk
      have ih := ih (by omega)
      unfold wantK
      rw [z, gd k (by omega), ctEq_dec]
      by_cases q : ds[k].t = d.dst
      · have : ds[k] = ds[j] := nd_inj hn (List.getElem_mem _) (List.getElem_mem _) (q.trans ht.symm)
        have hjk : k = j := by
          have h1 := List.getElem_of_mem (List.getElem_mem hj)
          by_cases e : k = j
          · exact e
          · exfalso
            have h2 : (ds.map (·.t))[k]'(by rw [List.length_map]; omega) = (ds.map (·.t))[j]'(by rw [List.length_map]; exact hj) := by rw [List.getElem_map, List.getElem_map, this]
            exact e ((List.getElem_inj hn).1 h2)
        subst hjk
        rw [decide_eq_true q]
        simp
      · rw [decide_eq_false q]
        simp only [Bool.not_false, Bool.true_and, cond_false]
        rw [ih]
        by_cases e : j = k
        · subst e; exact absurd ht q
        · by_cases e2 : j < k
          · rw [if_pos e2, if_pos (by omega)]
          · rw [if_neg e2, if_neg (by omega)]
  rw [key ds.length (Nat.le_refl _), if_pos hj]
structure MoneyK (B : LedV) (ds : List DocV) (d : DocV) : Prop where
  m : MoneyD B d (wantK ds d ds.length)
  frm : ∀ k, k < ds.length → d.dst ≠ tid0 → (ds.getD k doc0).t = d.dst → (ds.getD k doc0).frm = d.t
theorem dsL_mem {B : LedV} (h : LedG B) {d : DocV} : d ∈ dsL B ↔ d ∈ B.docs := by
  have hs := sortBy_perm cfT (B.docs.map (·.t))
  have ha : ∀ d ∈ B.docs, docAtD B.docs d.t = d := fun d hd => by
    unfold docAtD
    obtain ⟨e, he⟩ := lkD_some (ds := B.docs) (t := d.t) (List.mem_map.2 ⟨d, hd, rfl⟩)
    rw [he, Option.getD_some]
    exact nd_inj h.ok.nodup (lkD_mem he).1 hd (lkD_mem he).2
  constructor
  · intro q
    obtain ⟨t, ht, rfl⟩ := List.mem_map.1 q
    obtain ⟨d', hd', rfl⟩ := List.mem_map.1 (hs.mem_iff.1 ht)
    rw [ha d' hd']; exact hd'
  · intro q
    exact List.mem_map.2 ⟨d.t, hs.mem_iff.2 (List.mem_map.2 ⟨d, q, rfl⟩), ha d q⟩
theorem dsL_t {B : LedV} (h : LedG B) : (dsL B).map (·.t) = sortBy cfT (B.docs.map (·.t)) := by
  unfold dsL
  rw [List.map_map]
  have hs := sortBy_perm cfT (B.docs.map (·.t))
  conv => rhs; rw [← List.map_id (sortBy cfT (B.docs.map (·.t)))]
  refine List.map_congr_left fun t ht => ?_
  obtain ⟨d', hd', rfl⟩ := List.mem_map.1 (hs.mem_iff.1 ht)
  show (docAtD B.docs d'.t).t = d'.t
  unfold docAtD
  obtain ⟨e, he⟩ := lkD_some (ds := B.docs) (t := d'.t) (List.mem_map.2 ⟨d', hd', rfl⟩)
  rw [he, Option.getD_some]
  exact (lkD_mem he).2
theorem dsL_nd {B : LedV} (h : LedG B) : ((dsL B).map (·.t)).Nodup := by
  rw [dsL_t h]
  exact (sortBy_perm cfT (B.docs.map (·.t))).nodup_iff.2 h.ok.nodup
theorem dsL_perm {B : LedV} (h : LedG B) : (dsL B).Perm B.docs := by
  have ha : B.docs.map (docAtD B.docs ∘ (·.t)) = B.docs := by
    conv => rhs; rw [← List.map_id B.docs]
    refine List.map_congr_left fun d hd => ?_
    show docAtD B.docs d.t = d
    unfold docAtD
    obtain ⟨e, he⟩ := lkD_some (ds := B.docs) (t := d.t) (List.mem_map.2 ⟨d, hd, rfl⟩)
    rw [he, Option.getD_some]
    exact nd_inj h.ok.nodup (lkD_mem he).1 hd (lkD_mem he).2
  have := (sortBy_perm cfT (B.docs.map (·.t))).map (docAtD B.docs)
  rw [List.map_map, ha] at this
  exact this
theorem moneyK_of {B : LedV} (h : EC B) {d : DocV} (hd : d ∈ dsL B) : MoneyK B (dsL B) d := by
  have hd' := (dsL_mem h.g).1 hd
  by_cases h0 : d.dst = tid0
  · refine ⟨?_, fun k _ q => absurd h0 q⟩
    rw [wantK_0 _ h0]
    exact moneyD_of h hd' (h.ei.non d hd' h0) (Int.le_refl _)
  · obtain ⟨e, he, e1, e2, e3⟩ := h.ei.lnk d hd' h0
    have hi := h.ei.doc e he
    have := hi.left
    have hlc := hi.leftc
    refine ⟨?_, fun k hk _ q => ?_⟩
    · rw [wantK_1 (dsL_nd h.g) ((dsL_mem h.g).2 he) h0 e1]
      exact moneyD_of h hd' e3 (by omega)
    · have hm : (dsL B).getD k doc0 ∈ dsL B := List.mem_of_getElem? (getD_some hk doc0)
      have := nd_inj (dsL_nd h.g) hm ((dsL_mem h.g).2 he) (q.trans e1.symm)
      rw [this]; exact e2
def callK (ds : List DocV) : Nat → Int
  | 0 => 0
  | i + 1 => callK ds i + (ds.getD i doc0).paid - (ds.getD i doc0).back
def crestK (S : SlipsV) (ds : List DocV) : Nat → Int
  | 0 => 0
  | i + 1 => crestK S ds i + opL (cS S (ds.getD i doc0).t) + ((ds.getD i doc0).kept + (ds.getD i doc0).left)
theorem totals {B : LedV} (h : EC B) : callK (dsL B) (dsL B).length = crestK B.slips (dsL B) (dsL B).length := by
  have key : ∀ k, k ≤ (dsL B).length → callK (dsL B) k - crestK B.slips (dsL B) k = (((dsL B).take k).map fun d => mD d (cS B.slips d.t)).sum := by
    intro k
    induction k with
    | zero => intro _; rfl
    | succ k ih =>
      intro hk
      have ih := ih (by omega)
      have e1 : (dsL B).take (k + 1) = (dsL B).take k ++ [(dsL B).getD k doc0] := by
        rw [List.take_succ_eq_append_getElem (by omega)]
        congr 2
        rw [List.getD_eq_getElem?_getD, List.getElem?_eq_getElem (by omega)]; rfl
      rw [e1, List.map_append, List.sum_append]
      simp only [List.map_cons, List.map_nil, List.sum_cons, List.sum_nil]
      show callK (dsL B) k + _ - _ - (crestK B.slips (dsL B) k + _ + _) = _
      have : mD ((dsL B).getD k doc0) (cS B.slips ((dsL B).getD k doc0).t) = ((dsL B).getD k doc0).paid - ((dsL B).getD k doc0).back - ((dsL B).getD k doc0).kept - ((dsL B).getD k doc0).left - opL (cS B.slips ((dsL B).getD k doc0).t) := rfl
      omega
  have k1 := key _ (Nat.le_refl _)
  rw [List.take_length, perm_sum ((dsL_perm h.g).map fun d => mD d (cS B.slips d.t)), h.ei.tot] at k1
  omega
end Go.Proofs.YtdnaegleifhmgaaGreat
end
section
namespace Go.Proofs.YtdnaegleifhmgaaGreat
open Go.RowKit Go.Lib Go.Tk Go.Shelf Go.Vc Go.Sx Go.Maps Go.Sort
def Money24F : Nat := 7
abbrev dP (L : List (DocV × DocA)) (i : Nat) : DocV × DocA := L.getD i (doc0, docA0)
def docRowL (L : List (DocV × DocA)) : SC := .row 76 17 L.length (.shal (cellsL docL L)) []
theorem cdoc_load {L : List (DocV × DocA)} {i : Nat} (h : i < L.length) {t : TypeId} {u : SV} (j : Nat) (hu : Go.Sx.partAt Tryz.prog t (docSA (dP L i).1 (dP L i).2) j = some u) : OpG Tryz.prog (isLoad t) loadX [.elt 0 0 0 (i * 17) j] [((0, 0), docRowL L)] [] u [] :=
  load_eltG (P := Tryz.prog) (cs := docSA (dP L i).1 (dP L i).2) hu (cells_nth (enc := docL) (encS := fun p => docSA p.1 p.2) (fun p ε => rfl) (fun _ => rfl) (getD_some h (doc0, docA0)))
theorem tbal_x (L : List (DocV × DocA)) {p : DocV × DocA} (hp : p ∈ L) {st : List Int} {n : Nat} (hn : st.length = n) (bl : List Value) (h1 : n ≤ 1000) (h2 : p.1.vals.length ≤ 1000) :
    CallOK Tryz.prog TBalF [.agg (docSA p.1 p.2), .raw 0 13, .raw 0 14] [((0, 5), .fam fun _ _ => rowsC L), ((0, 13), .row 44 1 n (.shal (st.map (.int .u8))) []), ((0, 14), .row 4 1 n (.shal bl) [])] [] (.tup [.val (.int .i64 (balI (toT p.1) st n).1), eN (balI (toT p.1) st n).2]) [] := by
  intro ε R w hM
  have hM : Mem (rowsC L :: rowC 44 1 (asSl (ε 0 13).2) n (st.map (.int .u8)) :: rowC 4 1 (asSl (ε 0 14).2) n bl :: R) w := hM
  obtain ⟨sa, sc, hvs, oks⟩ := row_sl (hM.owns 1 rfl)
  obtain ⟨pa, pc, hvp, okp⟩ := row_sl (hM.owns 2 rfl)
  have hA : (SV.dens ε [.agg (docSA p.1 p.2), .raw 0 13, .raw 0 14]).toArray = #[tdocAgg (toT p.1) ⟨⟨p.2.la, p.2.lc, p.2.ta, p.2.tc⟩, p.2.va, p.2.vc⟩, .slice sa n sc, .slice pa n pc] := by
    simp only [SV.dens, SV.den, docSA, docS, hvs, hvp]; rfl
  rw [hA]
  have hM2 := hM
  rw [hvs] at hM2
  have rs : Row w sa (st.map (.int .u8)) := rd_row.row hM2 1 rfl
  have rv : Row w p.2.va (p.1.vals.map (.int .i64)) := hM.of 0 rfl fun S hS => (hS p hp).vals
  refine (balance_anyV (toT p.1) ⟨⟨p.2.la, p.2.lc, p.2.ta, p.2.tc⟩, p.2.va, p.2.vc⟩ st sa n sc pa n pc w hn rs rv (by omega) h2 h1).mono ?_
  rintro e w' ⟨rfl, hb⟩
  exact ⟨ε 1, rfl, by rw [eset_self]; exact hM.kept hb⟩
def mSl (al re : Int) (i : Nat) : Slots := [(8, .raw 1 8), (9, .raw 1 2), (10, .val (.int .i64 al)), (11, .val (.int .i64 re)), (12, .val (.int .i64 (i : Int)))]
def mH (F : CF) (C : LedV) (L : List (DocV × DocA)) (pl : List PlaceV) : Heap := [((0, 9), .fam F), ((0, 5), .fam fun _ _ => rowsC L), ((1, 0), .fam (ledF C)), ((1, 8), docRowL L), ((1, 2), plR pl)]
def boolVn (n : Nat) (l : List Value) : SC := .row 4 1 n (.shal l) []
section
variable {F : CF} {C : LedV} {L : List (DocV × DocA)} {pl : List PlaceV} {i : Nat} {al : Int} {eb : Env} {R : List Chunk} {J : Act → World → Prop} {ret : SV} {rp : Heap}
theorem money_places (hi : i < L.length) {re : Int} (hlp : pl.length ≤ 1000000) (hk : ∀ k, k < pl.length → (pAt pl k).key.t = (dP L i).1.t → 0 ≤ (pAt pl k).key.i ∧ (pAt pl k).key.i < ((dP L i).1.vals.length : Int)) (h4 : (dP L i).1.vals.length ≤ 4)
    (hr : ∀ k, k ≤ pl.length → -9223372036854775808 ≤ (maN pl (dP L i).1.t (dP L i).1.vals re k).r ∧ (maN pl (dP L i).1.t (dP L i).1.vals re k).r ≤ 9223372036854775807)
    (hn : ∀ k, k ≤ pl.length → (maN pl (dP L i).1.t (dP L i).1.vals re k).n ≤ k)
    (hq : Go Tryz.prog Money24F ret rp eb R .nrm (rgK Tryz.prog Money24F 27 [J]) (mSl al (maN pl (dP L i).1.t (dP L i).1.vals re pl.length).r i ++ [(13, .raw 1 3), (14, .raw 1 4)]) (mH F C L pl ++ [((1, 3), stVn (maN pl (dP L i).1.t (dP L i).1.vals re pl.length).n (maN pl (dP L i).1.t (dP L i).1.vals re pl.length).sl), ((1, 4), boolVn (maN pl (dP L i).1.t (dP L i).1.vals re pl.length).n (maN pl (dP L i).1.t (dP L i).1.vals re pl.length).pl)])) :
    Go Tryz.prog Money24F ret rp eb R .nrm (rgK Tryz.prog Money24F 17 [J]) (mSl al re i) (mH F C L pl) := by
  refine go_loop (X := { k : Nat // k ≤ pl.length }) 2 [J] (fun y => (mSl al (maN pl (dP L i).1.t (dP L i).1.vals re y.1).r i ++ [(13, .raw 1 3), (14, .raw 1 4), (15, .val (.int .i64 (y.1 : Int)))], mH F C L pl ++ [((1, 3), stVn (maN pl (dP L i).1.t (dP L i).1.vals re y.1).n (maN pl (dP L i).1.t (dP L i).1.vals re y.1).sl), ((1, 4), boolVn (maN pl (dP L i).1.t (dP L i).1.vals re y.1).n (maN pl (dP L i).1.t (dP L i).1.vals re y.1).pl)])) (fun y => pl.length - y.1) ⟨0, Nat.zero_le _⟩ calNone false 400 [] calNone_ok (by kernel_rfl) ?_
  rintro ⟨k, hk1⟩ J2 hJ2
  by_cases h : k < pl.length
  · have z0 : decide ((k : Int) < (pl.length : Int)) = true := decide_eq_true (by omega)
    have z9 : IntKind.i64.wrap ((k : Int) + 1) = ((k + 1 : Nat) : Int) := by rw [wr_i64 (by omega)]; omega
    have x1 := pl_load h (t := 31) (u := .agg (tidS (pAt pl k).key.t)) 0 (by kernel_rfl)
    have x2 := cdoc_load hi (t := 31) (u := .agg (tidS (dP L i).1.t)) 0 (by kernel_rfl)
    have hJ' : ∀ ε a' w, Rel (ntOf Tryz.prog Money24F) 1 eb R ⟨mSl al (maStep (dP L i).1.t (dP L i).1.vals (pAt pl k) (maN pl (dP L i).1.t (dP L i).1.vals re k)).r i ++ [(13, .raw 1 3), (14, .raw 1 4), (15, .val (.int .i64 ((k + 1 : Nat) : Int)))], mH F C L pl ++ [((1, 3), stVn (maStep (dP L i).1.t (dP L i).1.vals (pAt pl k) (maN pl (dP L i).1.t (dP L i).1.vals re k)).n (maStep (dP L i).1.t (dP L i).1.vals (pAt pl k) (maN pl (dP L i).1.t (dP L i).1.vals re k)).sl), ((1, 4), boolVn (maStep (dP L i).1.t (dP L i).1.vals (pAt pl k) (maN pl (dP L i).1.t (dP L i).1.vals re k)).n (maStep (dP L i).1.t (dP L i).1.vals (pAt pl k) (maN pl (dP L i).1.t (dP L i).1.vals re k)).pl)], 2⟩ ε a' w → J2 a' w := hJ2 ⟨k + 1, h⟩ (by show _ - (k + 1) < _ - k; omega)
    have hr1 := hr (k + 1) h
    have hr1 : -9223372036854775808 ≤ (maStep (dP L i).1.t (dP L i).1.vals (pAt pl k) (maN pl (dP L i).1.t (dP L i).1.vals re k)).r ∧ (maStep (dP L i).1.t (dP L i).1.vals (pAt pl k) (maN pl (dP L i).1.t (dP L i).1.vals re k)).r ≤ 9223372036854775807 := hr1
    have hn1 := hn k hk1
    have hkk := hk k h
    clear hJ2 hq hr hn hk
    generalize maN pl (dP L i).1.t (dP L i).1.vals re k = σ at *
    unfold maStep at hJ' hr1
    rcases Bool.eq_false_or_eq_true (ctEq (pAt pl k).key.t (dP L i).1.t) with e1 | e1
    · simp only [e1, cond_true] at hJ' hr1
      obtain ⟨k0, kl⟩ := hkk ((ctEq_iff _ _).1 e1)
      unfold ctEq at e1
      have hb : σ.n + 1 ≤ 1073741824 := by omega
      have x3 := pl_load h (t := 44) (u := .val (.int .u8 (pAt pl k).st)) 5 (by kernel_rfl)
      have x4 := pl_load h (t := 4) (u := .val (.bool (pAt pl k).paid)) 7 (by kernel_rfl)
      rcases Bool.eq_false_or_eq_true (decide ((pAt pl k).st ≤ 4)) with e2 | e2
      · simp only [e2, cond_true] at hJ' hr1
        have x5 := pl_load h (t := 5) (u := .val (.int .u8 (pAt pl k).key.i)) 2 (by kernel_rfl)
        have ek : (pAt pl k).key.i = (((pAt pl k).key.i.toNat : Nat) : Int) := (Int.toNat_of_nonneg k0).symm
        rw [ek] at x5
        have kl2 : (pAt pl k).key.i.toNat < (dP L i).1.vals.length := by omega
        have x6 := cdoc_load hi (t := 74) (u := .val (.slice (dP L i).2.va (dP L i).1.vals.length (dP L i).2.vc)) 7 (by kernel_rfl)
        have hmem : dP L i ∈ L := List.mem_of_getElem? (getD_some hi (doc0, docA0))
        have hrd : ∀ b v, Rd ((fun _ _ => rowsC L : CF) b v) (dP L i).2.va ((dP L i).1.vals.map (.int .i64)) := fun b v S w hS => (hS _ hmem).vals
        have w1 : IntKind.i64.wrap (((pAt pl k).key.i.toNat : Nat) : Int) = (((pAt pl k).key.i.toNat : Nat) : Int) := wr_i64 (by omega)
        have e3 : decide ((((pAt pl k).key.i.toNat : Nat) : Int) < ((dP L i).1.vals.length : Int)) = true := decide_eq_true (by omega)
        have q1 := idx_openG (P := Tryz.prog) (t := 74) (e := 2) (size := 1) (j := 5) (k := .u8) (cap := (dP L i).2.vc) (n := (dP L i).1.vals.length) Tryz.underlying74 (by kernel_rfl) (by rw [List.length_map, Nat.mul_one]) hrd kl2
        have q2 := load_openG0 (P := Tryz.prog) (t := 2) (k := (pAt pl k).key.i.toNat * 1) (j := 5) (cs := [.val (.int .i64 ((dP L i).1.vals.getD (pAt pl k).key.i.toNat 0))]) (u := .val (.int .i64 ((dP L i).1.vals.getD (pAt pl k).key.i.toNat 0))) (by kernel_rfl) hrd (fun ε q v hq => by
          cases q with
          | succ q => cases hq
          | zero =>
            cases hq
            show ((dP L i).1.vals.map (Value.int .i64))[(pAt pl k).key.i.toNat * 1 + 0]? = _
            rw [Nat.mul_one, Nat.add_zero, List.getElem?_map, getD_some kl2 0]; rfl) (by rw [List.length_map]; omega)
        have w2 : IntKind.i64.wrap (σ.r + (dP L i).1.vals.getD (pAt pl k).key.i.toNat 0) = σ.r + (dP L i).1.vals.getD (pAt pl k).key.i.toNat 0 := wr_i64 hr1
        exact leaf_round (lpK Tryz.prog Money24F 2 [J]) false 400 [hB 20 3 _ _ z0, .opt 22 2 (.at_ 0 _ _ _ ⟨rfl, h⟩), hG 22 5 x1, .opt 22 8 (.at_ 0 _ _ _ ⟨rfl, hi⟩), hG 22 10 x2, hB 22 11 _ _ e1, .opt 23 3 (.at_ 0 _ _ _ ⟨rfl, h⟩), hG 23 5 x3, .opt 23 7 (.le _ hb), .opt 24 3 (.at_ 0 _ _ _ ⟨rfl, h⟩), hG 24 5 x4, .opt 24 7 (.le _ hb), .opt 25 2 (.at_ 0 _ _ _ ⟨rfl, h⟩), hG 25 4 x3, hB 25 5 _ _ e2, .opt 25 9 (.at_ 0 _ _ _ ⟨rfl, h⟩), hG 25 12 x5, hI 25 13 IntKind.i64 _ _ w1, .opt 25 16 (.at_ 0 _ _ _ ⟨rfl, hi⟩), hG 25 18 x6, hB 25 20 _ _ e3, .opt 26 3 (.at_ 0 _ _ _ ⟨rfl, hi⟩), hG 26 5 x6, .opt 26 8 (.at_ 0 _ _ _ ⟨rfl, h⟩), hG 26 11 x5, hG 26 12 q1, hG 26 13 q2, hI 26 14 IntKind.i64 _ _ w2, hI 21 1 IntKind.i64 _ _ z9] hJ' (by kernel_rfl)
      · simp only [e2, cond_false] at hJ' hr1
        exact leaf_round (lpK Tryz.prog Money24F 2 [J]) false 400 [hB 20 3 _ _ z0, .opt 22 2 (.at_ 0 _ _ _ ⟨rfl, h⟩), hG 22 5 x1, .opt 22 8 (.at_ 0 _ _ _ ⟨rfl, hi⟩), hG 22 10 x2, hB 22 11 _ _ e1, .opt 23 3 (.at_ 0 _ _ _ ⟨rfl, h⟩), hG 23 5 x3, .opt 23 7 (.le _ hb), .opt 24 3 (.at_ 0 _ _ _ ⟨rfl, h⟩), hG 24 5 x4, .opt 24 7 (.le _ hb), .opt 25 2 (.at_ 0 _ _ _ ⟨rfl, h⟩), hG 25 4 x3, hB 25 5 _ _ e2, hI 21 1 IntKind.i64 _ _ z9] hJ' (by kernel_rfl)
    · simp only [e1, cond_false] at hJ'
      unfold ctEq at e1
      exact leaf_round (lpK Tryz.prog Money24F 2 [J]) false 400 [hB 20 3 _ _ z0, .opt 22 2 (.at_ 0 _ _ _ ⟨rfl, h⟩), hG 22 5 x1, .opt 22 8 (.at_ 0 _ _ _ ⟨rfl, hi⟩), hG 22 10 x2, hB 22 11 _ _ e1, hI 21 1 IntKind.i64 _ _ z9] hJ' (by kernel_rfl)
  · have he : k = pl.length := by omega
    subst he
    have z0 : decide ((pl.length : Int) < (pl.length : Int)) = false := decide_eq_false (by omega)
    clear hJ2
    exact leaf_cut (rgK Tryz.prog Money24F 27 [J]) _ _ calNone false 400 [hB 20 3 _ _ z0, .stop 27] calNone_ok (by kernel_rfl) hq
theorem money_want (hi : i < L.length) (hl : L.length ≤ 1000) {ds : List DocV} (hL : L.map (·.1) = ds) {re w : Int} (hfrm : ∀ k, k < ds.length → (dP L i).1.dst ≠ tid0 → (ds.getD k doc0).t = (dP L i).1.dst → (ds.getD k doc0).frm = (dP L i).1.t)
    (hq : Go Tryz.prog Money24F ret rp eb R .nrm (rgK Tryz.prog Money24F 36 [J]) (mSl al re i ++ [(16, .val (.int .i64 w)), (17, eN 0), (18, .val (.int .i64 (wantK ds (dP L i).1 ds.length)))]) (mH F C L pl)) :
    Go Tryz.prog Money24F ret rp eb R .nrm (rgK Tryz.prog Money24F 28 [J]) (mSl al re i ++ [(16, .val (.int .i64 w)), (17, eN 0)]) (mH F C L pl) := by
  have hll : ds.length = L.length := by rw [← hL, List.length_map]
  refine go_loop (X := { k : Nat // k ≤ L.length }) 3 [J] (fun y => (mSl al re i ++ [(16, .val (.int .i64 w)), (17, eN 0), (18, .val (.int .i64 (wantK ds (dP L i).1 y.1))), (19, .val (.int .i64 (y.1 : Int)))], mH F C L pl)) (fun y => L.length - y.1) ⟨0, Nat.zero_le _⟩ calNone false 400 [] calNone_ok (by kernel_rfl) ?_
  rintro ⟨k, hk⟩ J2 hJ2
  by_cases h : k < L.length
  · have z0 : decide ((k : Int) < (L.length : Int)) = true := decide_eq_true (by omega)
    have z9 : IntKind.i64.wrap ((k : Int) + 1) = ((k + 1 : Nat) : Int) := by rw [wr_i64 (by omega)]; omega
    have ed : ds.getD k doc0 = (dP L k).1 := by
      rw [← hL, List.getD_eq_getElem?_getD, List.getElem?_map, getD_some h (doc0, docA0)]; rfl
    have hf := hfrm k (by omega)
    have x1 := cdoc_load hi (t := 31) (u := .agg (tidS (dP L i).1.dst)) 10 (by kernel_rfl)
    have x2 := cdoc_load h (t := 31) (u := .agg (tidS (dP L k).1.t)) 0 (by kernel_rfl)
    have x3 := cdoc_load h (t := 2) (u := .val (.int .i64 (dP L k).1.credit)) 12 (by kernel_rfl)
    have x4 := cdoc_load h (t := 31) (u := .agg (tidS (dP L k).1.frm)) 8 (by kernel_rfl)
    have x5 := cdoc_load hi (t := 31) (u := .agg (tidS (dP L i).1.t)) 0 (by kernel_rfl)
    have hJ' : ∀ ε a' w', Rel (ntOf Tryz.prog Money24F) 1 eb R ⟨mSl al re i ++ [(16, .val (.int .i64 w)), (17, eN 0), (18, .val (.int .i64 (bif !ctEq (dP L i).1.dst tid0 && ctEq (ds.getD k doc0).t (dP L i).1.dst then (ds.getD k doc0).credit else wantK ds (dP L i).1 k))), (19, .val (.int .i64 ((k + 1 : Nat) : Int)))], mH F C L pl, 2⟩ ε a' w' → J2 a' w' := hJ2 ⟨k + 1, h⟩ (by show _ - (k + 1) < _ - k; omega)
    rw [ed] at hJ' hf
    clear hJ2 hq hfrm
    generalize wantK ds (dP L i).1 k = wk at *
    rcases Bool.eq_false_or_eq_true (ctEq (dP L i).1.dst tid0) with e1 | e1
    · have f1 : (!ctEq (dP L i).1.dst tid0) = false := by rw [e1]; rfl
      simp only [e1] at hJ'
      unfold ctEq at f1
      exact leaf_round (lpK Tryz.prog Money24F 3 [J]) false 400 [hB 30 3 _ _ z0, .opt 32 2 (.at_ 0 _ _ _ ⟨rfl, hi⟩), hG 32 4 x1, hB 32 6 _ _ f1, hI 31 1 IntKind.i64 _ _ z9] hJ' (by kernel_rfl)
    · have f1 : (!ctEq (dP L i).1.dst tid0) = true := by rw [e1]; rfl
      have h0 : (dP L i).1.dst ≠ tid0 := fun e => by rw [(ctEq_iff _ _).2 e] at e1; cases e1
      rcases Bool.eq_false_or_eq_true (ctEq (dP L k).1.t (dP L i).1.dst) with e2 | e2
      · have f3 : (!ctEq (dP L k).1.frm (dP L i).1.t) = false := by rw [(ctEq_iff _ _).2 (hf h0 ((ctEq_iff _ _).1 e2))]; rfl
        simp only [e1, e2] at hJ'
        unfold ctEq at f1 e2 f3
        exact leaf_round (lpK Tryz.prog Money24F 3 [J]) false 400 [hB 30 3 _ _ z0, .opt 32 2 (.at_ 0 _ _ _ ⟨rfl, hi⟩), hG 32 4 x1, hB 32 6 _ _ f1, .opt 32 10 (.at_ 0 _ _ _ ⟨rfl, h⟩), hG 32 12 x2, .opt 32 15 (.at_ 0 _ _ _ ⟨rfl, hi⟩), hG 32 17 x1, hB 32 18 _ _ e2, .opt 33 2 (.at_ 0 _ _ _ ⟨rfl, h⟩), hG 33 4 x3, .opt 34 2 (.at_ 0 _ _ _ ⟨rfl, h⟩), hG 34 4 x4, .opt 34 7 (.at_ 0 _ _ _ ⟨rfl, hi⟩), hG 34 9 x5, hB 34 10 _ _ f3, hI 31 1 IntKind.i64 _ _ z9] hJ' (by kernel_rfl)
      · simp only [e1, e2] at hJ'
        unfold ctEq at f1 e2
        exact leaf_round (lpK Tryz.prog Money24F 3 [J]) false 400 [hB 30 3 _ _ z0, .opt 32 2 (.at_ 0 _ _ _ ⟨rfl, hi⟩), hG 32 4 x1, hB 32 6 _ _ f1, .opt 32 10 (.at_ 0 _ _ _ ⟨rfl, h⟩), hG 32 12 x2, .opt 32 15 (.at_ 0 _ _ _ ⟨rfl, hi⟩), hG 32 17 x1, hB 32 18 _ _ e2, hI 31 1 IntKind.i64 _ _ z9] hJ' (by kernel_rfl)
  · have he : k = L.length := by omega
    subst he
    rw [hll] at hq
    have z0 : decide ((L.length : Int) < (L.length : Int)) = false := decide_eq_false (by omega)
    clear hJ2
    exact leaf_cut (rgK Tryz.prog Money24F 36 [J]) _ _ calNone false 400 [hB 30 3 _ _ z0, .stop 36] calNone_ok (by kernel_rfl) hq
end
end Go.Proofs.YtdnaegleifhmgaaGreat
end
section
namespace Go.Proofs.YtdnaegleifhmgaaGreat
open Go.RowKit Go.Lib Go.Tk Go.Shelf Go.Vc Go.Sx Go.Maps Go.Sort
section
variable {F : CF} {n : Int} {a : Option Addr} {m cap i : Nat} {e : Int} {k j : Nat} {C : LedV} {was now : List PlaceV} {eb : Env} {R : List Chunk} {J J2 : Act → World → Prop} {ret : SV} {rp : Heap}
end
end Go.Proofs.YtdnaegleifhmgaaGreat
end
section
namespace Go.Proofs.YtdnaegleifhmgaaGreat
open Go.RowKit Go.Lib Go.Tk Go.Shelf Go.Vc Go.Sx Go.Maps Go.Sort
theorem Wk.done {a b : List PlaceV} {i j : Nat} (h : Wk a b i j) (hj : ¬ j < b.length) : i = a.length := by
  by_cases q : i < a.length
  · exact absurd (h.fin q) hj
  · have := h.hi; omega
end Go.Proofs.YtdnaegleifhmgaaGreat
end
section
namespace Go.Proofs.YtdnaegleifhmgaaGreat
open Go.RowKit Go.Lib Go.Tk Go.Shelf Go.Vc Go.Sx Go.Maps Go.Sort
theorem opS_nn {vals : List Int} (hv : ∀ v ∈ vals, 0 ≤ v) : ∀ l : List PlaceV, 0 ≤ opS vals l
  | [] => by unfold opS; exact Int.le_refl 0
  | p :: l => by
    have h := opS_nn hv l
    rw [show p :: l = [p] ++ l from rfl, opS_app, opS_one]
    have hg : 0 ≤ vals.getD p.key.i.toNat 0 := by
      rw [List.getD_eq_getElem?_getD]
      cases e : vals[p.key.i.toNat]? with
      | none => exact Int.le_refl 0
      | some v => exact hv v (List.mem_of_getElem? e)
    cases decide (p.st ≤ 4) with
    | true => show 0 ≤ vals.getD p.key.i.toNat 0 + _; omega
    | false => show (0 : Int) ≤ 0 + _; omega
theorem callK_bnd {B : LedV} (h : EC B) : ∀ i, i ≤ (dsL B).length → -((i : Int) * 35184372088832) ≤ callK (dsL B) i ∧ callK (dsL B) i ≤ (i : Int) * 35184372088832
  | 0, _ => by unfold callK; omega
  | i + 1, hi => by
    have ih := callK_bnd h i (by omega)
    have m := (moneyK_of h (d := (dsL B).getD i doc0) (List.mem_of_getElem? (getD_some (show i < _ by omega) doc0))).m
    have := m.paid
    have := m.back
    show -(((i + 1 : Nat) : Int) * 35184372088832) ≤ callK (dsL B) i + _ - _ ∧ callK (dsL B) i + _ - _ ≤ _
    push_cast
    omega
theorem crestK_bnd {B : LedV} (h : EC B) : ∀ i, i ≤ (dsL B).length → 0 ≤ crestK B.slips (dsL B) i ∧ crestK B.slips (dsL B) i ≤ (i : Int) * 105553116266496
  | 0, _ => by unfold crestK; omega
  | i + 1, hi => by
    have ih := crestK_bnd h i (by omega)
    have m := (moneyK_of h (d := (dsL B).getD i doc0) (List.mem_of_getElem? (getD_some (show i < _ by omega) doc0))).m
    have := m.kept
    have := m.left
    have h1 := m.opb
    have h2 : 0 ≤ opL (cS B.slips ((dsL B).getD i doc0).t) := by rw [← m.op]; exact opS_nn m.nn _
    show 0 ≤ crestK B.slips (dsL B) i + _ + (_ + _) ∧ crestK B.slips (dsL B) i + _ + (_ + _) ≤ _
    push_cast
    omega
structure Sums (B : LedV) (pl : List PlaceV) (d : DocV) (re : Int) : Prop where
  hk : ∀ k, k < pl.length → (pAt pl k).key.t = d.t → 0 ≤ (pAt pl k).key.i ∧ (pAt pl k).key.i < (d.vals.length : Int)
  hr : ∀ k, k ≤ pl.length → -9223372036854775808 ≤ (maN pl d.t d.vals re k).r ∧ (maN pl d.t d.vals re k).r ≤ 9223372036854775807
  hn : ∀ k, k ≤ pl.length → (maN pl d.t d.vals re k).n ≤ k
  all : maN pl d.t d.vals re pl.length = ⟨d.vals.length, ((qF B.slips d.t d.vals.length).map (·.st)).map (.int .u8), (qF B.slips d.t d.vals.length).map (fun p => .bool p.paid), re + opL (cS B.slips d.t)⟩
theorem sums_of {B : LedV} (h : EC B) {d : DocV} (hd : d ∈ B.docs) {w : Int} (m : MoneyD B d w) {re : Int} (hre : 0 ≤ re ∧ re ≤ 4611686018427387904) : Sums B (plL B) d re where
  hk := fun k hk e => by
    obtain ⟨s, e1, e2⟩ := (plL_mem h.g).1 (pAt_mem hk)
    obtain ⟨d', hd', h1, h2, h3⟩ := (h.g.keys _).1 (show (lkt B.slips (pAt (plL B) k).key).isSome = true by rw [e1]; rfl)
    have := nd_inj h.g.ok.nodup hd' hd (h1.trans e)
    subst this
    exact ⟨h2, h3⟩
  hr := fun k hk => by
    rw [maN_eq _ _ _ _ k hk]
    have h1 : opS d.vals (tF d.t ((plL B).take k)) + opS d.vals (tF d.t ((plL B).drop k)) = opL (cS B.slips d.t) := by
      rw [← opS_app, ← m.op, ← qF_eq h.g hd]
      unfold tF
      rw [← List.filter_append, List.take_append_drop]
    have h2 := opS_nn m.nn (tF d.t ((plL B).take k))
    have h3 := opS_nn m.nn (tF d.t ((plL B).drop k))
    have h4 := m.opb
    show _ ≤ re + opS d.vals (tF d.t ((plL B).take k)) ∧ re + opS d.vals (tF d.t ((plL B).take k)) ≤ _
    omega
  hn := fun k hk => by
    rw [maN_eq _ _ _ _ k hk]
    show (tF d.t ((plL B).take k)).length ≤ k
    unfold tF
    have h1 := List.length_filter_le (fun p : PlaceV => decide (p.key.t = d.t)) ((plL B).take k)
    rw [List.length_take] at h1
    omega
  all := by
    rw [maN_eq _ _ _ _ _ (Nat.le_refl _), List.take_length]
    have e : tF d.t (plL B) = qF B.slips d.t d.vals.length := qF_eq h.g hd
    rw [e, m.op]
    have e2 : (qF B.slips d.t d.vals.length).length = d.vals.length := by unfold qF; rw [List.length_map, List.length_range]
    rw [e2, List.map_map]; rfl
section
variable {F : CF} {B : LedV} {L : List (DocV × DocA)} {i : Nat} {eb : Env} {R : List Chunk} {J : Act → World → Prop} {ret : SV} {rp : Heap}
theorem money_tail (hi : i < L.length) (hl : L.length ≤ 1000) {pl : List PlaceV} {al re w : Int} (ba : -9223372036854775808 ≤ al + (dP L i).1.paid ∧ al + (dP L i).1.paid ≤ 9223372036854775807)
    (bb : -9223372036854775808 ≤ al + (dP L i).1.paid - (dP L i).1.back ∧ al + (dP L i).1.paid - (dP L i).1.back ≤ 9223372036854775807)
    (bc : -9223372036854775808 ≤ re + (dP L i).1.kept ∧ re + (dP L i).1.kept ≤ 9223372036854775807)
    (bd : -9223372036854775808 ≤ re + (dP L i).1.kept + (dP L i).1.left ∧ re + (dP L i).1.kept + (dP L i).1.left ≤ 9223372036854775807)
    (hJ : ∀ ε a' w', Rel (ntOf Tryz.prog Money24F) 1 eb R ⟨mSl (al + (dP L i).1.paid - (dP L i).1.back) (re + (dP L i).1.kept + (dP L i).1.left) (i + 1), mH F B L pl, 2⟩ ε a' w' → J a' w') :
    Go Tryz.prog Money24F ret rp eb R .nrm (rgK Tryz.prog Money24F 36 [J]) (mSl al re i ++ [(16, .val (.int .i64 w)), (17, eN 0), (18, .val (.int .i64 w))]) (mH F B L pl) := by
  have x1 := cdoc_load hi (t := 2) (u := .val (.int .i64 (dP L i).1.paid)) 13 (by kernel_rfl)
  have x2 := cdoc_load hi (t := 2) (u := .val (.int .i64 (dP L i).1.back)) 14 (by kernel_rfl)
  have x3 := cdoc_load hi (t := 2) (u := .val (.int .i64 (dP L i).1.kept)) 15 (by kernel_rfl)
  have x4 := cdoc_load hi (t := 2) (u := .val (.int .i64 (dP L i).1.left)) 16 (by kernel_rfl)
  generalize (dP L i).1.paid = pd at *
  generalize (dP L i).1.back = bk at *
  generalize (dP L i).1.kept = kp at *
  generalize (dP L i).1.left = lf at *
  have w1 : IntKind.i64.wrap (al + pd) = al + pd := wr_i64 ba
  have w2 : IntKind.i64.wrap (al + pd - bk) = al + pd - bk := wr_i64 bb
  have w3 : IntKind.i64.wrap (re + kp) = re + kp := wr_i64 bc
  have w4 : IntKind.i64.wrap (re + kp + lf) = re + kp + lf := wr_i64 bd
  have z9 : IntKind.i64.wrap ((i : Int) + 1) = ((i + 1 : Nat) : Int) := by rw [wr_i64 (by omega)]; omega
  have g : (!decide (w = w)) = false := by simp
  exact leaf_round (lpK Tryz.prog Money24F 1 []) false 400 [hB 36 5 _ _ g, .opt 38 3 (.at_ 0 _ _ _ ⟨rfl, hi⟩), hG 38 5 x1, hI 38 6 IntKind.i64 _ _ w1, .opt 38 9 (.at_ 0 _ _ _ ⟨rfl, hi⟩), hG 38 11 x2, hI 38 12 IntKind.i64 _ _ w2, .opt 39 3 (.at_ 0 _ _ _ ⟨rfl, hi⟩), hG 39 5 x3, hI 39 6 IntKind.i64 _ _ w3, .opt 39 9 (.at_ 0 _ _ _ ⟨rfl, hi⟩), hG 39 11 x4, hI 39 12 IntKind.i64 _ _ w4, hI 16 1 IntKind.i64 _ _ z9] hJ (by kernel_rfl)
theorem money_round (h : EC B) (hL : L.map (·.1) = dsL B) (hl : L.length ≤ 256) (hi : i < L.length)
    (hJ : ∀ ε a' w', Rel (ntOf Tryz.prog Money24F) 1 eb R ⟨mSl (callK (dsL B) (i + 1)) (crestK B.slips (dsL B) (i + 1)) (i + 1), mH F B L (plL B), 2⟩ ε a' w' → J a' w') :
    Go Tryz.prog Money24F ret rp eb R .nrm (rgK Tryz.prog Money24F 17 [J]) (mSl (callK (dsL B) i) (crestK B.slips (dsL B) i) i) (mH F B L (plL B)) := by
  have hll : (dsL B).length = L.length := by rw [← hL, List.length_map]
  have ed : (dsL B).getD i doc0 = (dP L i).1 := by
    rw [← hL, List.getD_eq_getElem?_getD, List.getElem?_map, getD_some hi (doc0, docA0)]; rfl
  have hm : (dP L i).1 ∈ dsL B := by rw [← ed]; exact List.mem_of_getElem? (getD_some (by omega) doc0)
  have hd := (dsL_mem h.g).1 hm
  have mk := moneyK_of h hm
  have b1 := callK_bnd h i (by omega)
  have b2 := crestK_bnd h i (by omega)
  have s := sums_of h hd mk.m (re := crestK B.slips (dsL B) i) (by omega)
  have h4 := h.g.ok.vals _ hd
  have e1 : callK (dsL B) (i + 1) = callK (dsL B) i + (dP L i).1.paid - (dP L i).1.back := by rw [← ed]; rfl
  have e2 : crestK B.slips (dsL B) (i + 1) = crestK B.slips (dsL B) i + opL (cS B.slips (dP L i).1.t) + (dP L i).1.kept + (dP L i).1.left := by
    show crestK B.slips (dsL B) i + _ + (_ + _) = _
    rw [ed]; omega
  rw [e1, e2] at hJ
  refine money_places hi (pl_few h.g) s.hk h4 s.hr s.hn ?_
  rw [s.all]
  have lq : ((qF B.slips (dP L i).1.t (dP L i).1.vals.length).map (·.st)).length = (dP L i).1.vals.length := by unfold qF; rw [List.length_map, List.length_map, List.length_range]
  have tb := tbal_x L (p := dP L i) (List.mem_of_getElem? (getD_some hi (doc0, docA0))) lq ((qF B.slips (dP L i).1.t (dP L i).1.vals.length).map (fun p => .bool p.paid)) (by omega) (by omega)
  have hb := mk.m.bal
  rw [show (qF B.slips (dP L i).1.t (dP L i).1.vals.length).length = (dP L i).1.vals.length from by unfold qF; rw [List.length_map, List.length_range]] at hb
  rw [hb] at tb
  have x1 := cdoc_load hi (t := 76) (u := .agg (docSA (dP L i).1 (dP L i).2)) 0 (by kernel_rfl)
  have m := mk.m
  have fr := mk.frm
  have := m.paid
  have := m.back
  have := m.kept
  have := m.left
  have := m.opb
  have o0 : 0 ≤ opL (cS B.slips (dP L i).1.t) := by rw [← m.op]; exact opS_nn m.nn _
  have fin := money_tail (F := F) (B := B) (pl := plL B) (eb := eb) (R := R) (J := J) (ret := ret) (rp := rp) (w := wantK (dsL B) (dP L i).1 (dsL B).length) hi (by omega) (al := callK (dsL B) i) (re := crestK B.slips (dsL B) i + opL (cS B.slips (dP L i).1.t)) (by omega) (by omega) (by omega) (by omega) hJ
  have mid := money_want (F := F) (C := B) (pl := plL B) (al := callK (dsL B) i) (re := crestK B.slips (dsL B) i + opL (cS B.slips (dP L i).1.t)) hi (by omega) hL (w := wantK (dsL B) (dP L i).1 (dsL B).length) fr fin
  clear hJ fin fr m mk s hb e1 e2 b1 b2 h
  generalize wantK (dsL B) (dP L i).1 (dsL B).length = wk at *
  generalize callK (dsL B) i = al at *
  generalize crestK B.slips (dsL B) i + opL (cS B.slips (dP L i).1.t) = re at *
  exact leaf_cut (rgK Tryz.prog Money24F 28 [J]) _ _ calNone false 400 [.opt 27 2 (.at_ 0 _ _ _ ⟨rfl, hi⟩), hG 27 3 x1, hC 27 6 tb, .stop 28] calNone_ok (by kernel_rfl) mid
end
end Go.Proofs.YtdnaegleifhmgaaGreat
end
section
namespace Go.Proofs.YtdnaegleifhmgaaGreat
open Go.RowKit Go.Lib Go.Tk Go.Shelf Go.Vc Go.Sx Go.Maps Go.Sort
theorem docs_small {B : LedV} (h : LedG B) : ∀ d ∈ B.docs, DocSmall d := fun d hd =>
  ⟨by have := (h.ok.sal d hd).nl; omega, by have := (h.ok.sal d hd).nt; omega, by have := h.ok.vals d hd; omega⟩
theorem docs_256 {B : LedV} (h : LedG B) : B.docs.length ≤ 256 :=
  docs_few 8 B.docs (fun d hd => ⟨(h.ok.tid d hd).1.1, by have := h.car d hd; have := h.ok.n.2; omega⟩) h.cnt
theorem money_end (F : CF) {B : LedV} (h : EC B) {eb : Env} {R : List Chunk} {rp : Heap} {sl : Slots} (hs : sl = [(5, .ptr 1 0 0)]) (hrp : rp = [((0, 9), .fam F)]) :
    Go Tryz.prog Money24F (.val (.bool true)) rp eb R .nrm (rgK Tryz.prog Money24F 12 []) sl (aloH F B) := by
  subst hs hrp
  have c2 := wakes24_w
  have hl : B.docs.length ≤ 256 := docs_256 h.g
  have c4 := docs_c B (docs_small h.g) h.g.ok.nodup (by omega)
  have c5 := placesC h.g (slips_few h.g)
  refine leaf_cut (rgK Tryz.prog Money24F 14 []) [(8, .raw 1 8), (9, .raw 1 2), (10, .val (.int .i64 0)), (11, .val (.int .i64 0))] [((0, 9), .fam F), ((1, 0), .fam (ledF B)), ((1, 8), .fam (docsP (dsL B))), ((1, 2), plR (plL B))] calNone false 400 [hC 12 1 c4, hC 12 3 c5, .stop 14] calNone_ok (by kernel_rfl) ?_
  refine go_open (X := { L : List (DocV × DocA) // L.map (·.1) = dsL B }) (fun L => [((1, 8), docRowL L.1), ((0, 5), .fam fun _ _ => rowsC L.1), ((0, 9), .fam F), ((1, 0), .fam (ledF B)), ((1, 2), plR (plL B))]) (fun ε w hM => by
    obtain ⟨L, h1⟩ := Mem.ex (hM.front 2 rfl)
    exact ⟨L, h1.all⟩) (fun x => by kernel_rfl) ?_
  rintro ⟨L, hL⟩
  have hll : (dsL B).length = L.length := by rw [← hL, List.length_map]
  have hlb : (dsL B).length = B.docs.length := (dsL_perm h.g).length_eq
  have hl2 : L.length ≤ 256 := by omega
  have tot := totals h
  rw [hll] at tot
  refine go_loop (X := { i : Nat // i ≤ L.length }) 1 [] (fun x => (mSl (callK (dsL B) x.1) (crestK B.slips (dsL B) x.1) x.1, mH F B L (plL B))) (fun x => L.length - x.1) ⟨0, Nat.zero_le _⟩ calNone false 400 [] calNone_ok (by kernel_rfl) ?_
  rintro ⟨i, hi⟩ J hJ
  by_cases q : i < L.length
  · have z0 : decide ((i : Int) < (L.length : Int)) = true := decide_eq_true (by omega)
    refine leaf_cut (rgK Tryz.prog Money24F 17 [J]) (mSl (callK (dsL B) i) (crestK B.slips (dsL B) i) i) (mH F B L (plL B)) calNone false 400 [hB 15 3 _ _ z0, .stop 17] calNone_ok (by kernel_rfl) ?_
    exact money_round h hL hl2 q (hJ ⟨i + 1, q⟩ (by show _ - (i + 1) < _ - i; omega))
  · have e : i = L.length := by omega
    subst e
    have z0 : decide ((L.length : Int) < (L.length : Int)) = false := decide_eq_false (by omega)
    have z1 : decide (callK (dsL B) L.length = crestK B.slips (dsL B) L.length) = true := decide_eq_true tot
    clear hJ
    exact leaf_end calNone false 400 [hB 15 3 _ _ z0, hB 40 2 _ _ z1, hC 40 4 c2] calNone_ok (by kernel_rfl)
theorem load_openG4 {P : Program} {t k j : Nat} {F : Nat → Value → Chunk} {a : Option Addr} {xs : List Value} {cs : List SV} {u : SV} (q1 q2 q3 q4 : Nat) (hu : Go.Sx.partAt P t cs (q1 + q2 + q3 + q4) = some u) (hR : ∀ b v, Rd (F b v) a xs) (hc : ∀ ε i v, cs[i]? = some v → xs[k + i]? = some (v.den ε)) (h0 : 0 < xs.length) :
    OpG P (isLoad t) loadX [.val (.pointer (some ((((((a.getD ⟨0, 0, none⟩).add k).add q1).add q2).add q3).add q4)))] [((0, j), .fam F)] [] u [] := by
  have := load_openG3 (j := j) (q1 + q2) q3 q4 hu hR hc h0
  have e : ∀ x : Addr, (x.add q1).add q2 = x.add (q1 + q2) := fun x => by
    by_cases hk : q1 = 0 <;> by_cases hj : q2 = 0 <;> simp [Addr.add, hk, hj, Nat.add_assoc]
  rw [e]
  exact this
theorem money24_law (F : CF) {n : Int} {a : Option Addr} {cap : Nat} {l : List CmX} (hR : ∀ b v, Rd (F b v) a (cellsL cmC l)) (hok : greatB24 l = false → ∀ x ∈ l, CmRd F x) :
    CallOK Tryz.prog Money24F [.val (.int .i64 n), .val (.slice a l.length cap)] [((0, 9), .fam F)] [] (.val (.bool true)) [] := by
  have c1 := great24_w F (cap := cap) hR
  have c2 := wakes24_w
  rcases Bool.eq_false_or_eq_true (greatB24 l) with g | g
  · rw [g] at c1
    exact callOK_run 400 [hC 1 1 c1, hC 2 0 c2] (by kernel_rfl) (by kernel_rfl)
  rw [g] at c1
  have hok := hok g
  obtain ⟨hl, -⟩ := greatB24_no g
  by_cases hn : ledE n = 0
  · have c3 := lnew_ok hn
    refine callOK_intro (by kernel_rfl) fun eb R => ?_
    refine go_loop (X := { i : Nat // i ≤ l.length ∧ ∀ j, j < i → (l.getD j cmZ).c.cmd.s.fare < 1099511627776 }) 0 [] (fun x => (aloSl a l.length cap x.1, aloH F (runL n l x.1))) (fun x => l.length - x.1) ⟨0, Nat.zero_le _, fun j hj => absurd hj (Nat.not_lt_zero _)⟩ calNone false 400 [hC 1 1 c1, hC 3 1 c3] calNone_ok (by kernel_rfl) ?_
    rintro ⟨i, hi, hf⟩ J hJ
    by_cases h : i < l.length
    · have z0 : decide ((i : Int) < (l.length : Int)) = true := decide_eq_true (by omega)
      have z9 : IntKind.i64.wrap ((i : Int) + 1) = ((i + 1 : Nat) : Int) := by rw [wr_i64 (by omega)]; omega
      have hin : l.getD i cmZ ∈ l := List.mem_of_getElem? (getD_some h cmZ)
      have ok := hok _ hin
      have hb := runL_g hn hok i hi
      have q1 := idx_openG (P := Tryz.prog) (t := CmT) (e := 52) (size := 26) (j := 9) (k := .i64) (cap := cap) (n := l.length) Tryz.underlying22 (by kernel_rfl) (cm_len l) hR h
      have hpos : 0 < (cellsL cmC l).length := by rw [cm_len]; omega
      have q2 := load_openG4 (P := Tryz.prog) (t := 2) (k := i * 26) (j := 9) (u := .val (.int .i64 (l.getD i cmZ).c.cmd.s.fare)) 1 1 4 2 (by kernel_rfl) hR (cm_nth h) hpos
      have q3 := load_openG0 (P := Tryz.prog) (t := 52) (k := i * 26) (j := 9) (u := .agg (cmX (l.getD i cmZ))) (by kernel_rfl) hR (cm_nth h) hpos
      have s1 := step_x hb ok
      rcases Bool.eq_false_or_eq_true (decide (1099511627776 ≤ (l.getD i cmZ).c.cmd.s.fare)) with e | e
      · exact leaf_end calNone false 400 [hB 7 3 _ _ z0, hG 9 2 q1, hG 9 7 q2, hB 9 8 _ _ e, hC 10 0 c2] calNone_ok (by kernel_rfl)
      · have hJ0 := hJ ⟨i + 1, h, fun j hj => by
          by_cases e2 : j = i
          · subst e2; have := of_decide_eq_false e; omega
          · exact hf j (by omega)⟩ (by show _ - (i + 1) < _ - i; omega)
        have hJ' : ∀ ε a' w, Rel (ntOf Tryz.prog Money24F) 1 eb R ⟨aloSl a l.length cap (i + 1), aloH F (StR (runL n l i) (l.getD i cmZ).c).b, 2⟩ ε a' w → J a' w := hJ0
        clear hJ0 hJ
        generalize runL n l i = B at *
        exact leaf_round (lpK Tryz.prog Money24F 0 []) false 400 [hB 7 3 _ _ z0, hG 9 2 q1, hG 9 7 q2, hB 9 8 _ _ e, hG 11 3 q1, hG 11 4 q3, hC 11 5 s1, hI 8 1 IntKind.i64 _ _ z9] hJ' (by kernel_rfl)
    · have z0 : decide ((i : Int) < (l.length : Int)) = false := decide_eq_false (by omega)
      have e : i = l.length := by omega
      subst e
      have ec := runL_ec hn hok l.length (Nat.le_refl _) hf
      clear hJ
      refine leaf_cut (rgK Tryz.prog Money24F 12 []) [(5, .ptr 1 0 0)] (aloH F (runL n l l.length)) calNone false 400 [hB 7 3 _ _ z0, .stop 12] calNone_ok (by kernel_rfl) ?_
      exact money_end F ec rfl rfl
  · have c3 := lnew_no hn
    exact callOK_run 400 [hC 1 1 c1, hC 3 1 c3, hC 5 0 c2] (by kernel_rfl) (by kernel_rfl)
theorem money24_any (n : Int) (a : Option Addr) (l : List CmX) (c : Nat) (w : World) (_ : (Lit.int .i64 n).wf = true) (hr : Row w a (cellsL cmC l)) (_ : a = none → c = 0) (_ : l.length ≤ maxLen) (ok : ∀ x ∈ l, CmIn w x) :
    Calls Tryz.prog Money24F #[.int .i64 n, .slice a l.length c] w fun e w' => e = .returned (.bool true) ∧ Below w.heap.size w w' :=
  (money24_law (fun _ _ => oldC w) (cap := c) (fun _ _ => rd_old hr)
    (fun hg y hy => cmRd_of (ok y hy) (by have := ((greatB24_no hg).2 y hy).1; omega) (by have := ((greatB24_no hg).2 y hy).2; omega)) (fun _ _ => (0, undef)) [] w (Mem.old w)).mono fun e w' ⟨x, h, hm⟩ => ⟨h, (show Mem (oldC w :: []) w' from hm).below 0 rfl⟩
end Go.Proofs.YtdnaegleifhmgaaGreat
end
section
namespace Go.Proofs.YtdnaegleifhmgaaGreat.centralMoneyF
open Go
theorem closed : joinedFacts Tryz.pinned.checked.prog 7 Tryz.f7 Rows.centralMoneySpec Rows.centralMoneyRow = true := by kernel_rfl
theorem inst : Tryz.f7.isInstance Tryz.pinned.checked.prog Rows.centralMoneyRow.origin Rows.centralMoneyRow.targs := of_decide_eq_true (by kernel_rfl)
theorem wrap : Tryz.f7.isWrapper Tryz.pinned.checked.prog Rows.centralMoneyRow.wrapper Rows.centralMoneyRow.mainSum := by
  unfold Func.isWrapper
  first | (rw [if_pos (by decide +kernel)]; kernel_rfl) | (rw [if_neg (by decide +kernel)]; exact ⟨rfl, rfl⟩)
end Go.Proofs.YtdnaegleifhmgaaGreat.centralMoneyF
end
