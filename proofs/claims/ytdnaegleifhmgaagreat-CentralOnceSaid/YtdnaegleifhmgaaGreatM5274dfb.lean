/- OpA, OpB, CeO, Bw, Bs1, Ce31, Ce32, Ce33, Ce34, Ce35, Ce36, FsCentralOnce. -/
import Derived.Test.YtdnaegleifhmgaaGreatM7ce3b18
import Derived.Test.YtdnaegleifhmgaaGreatMd41ca14
import Derived.Test.YtdnaegleifhmgaaGreatM6fdd07c
import Derived.Test.YtdnaegleifhmgaaGreatRows
import Derived.Test.YtdnaegleifhmgaaGreatChecked
import Derived.ProofKit
import Derived.OpenShut
import Derived.ShutString
import Derived.ChangeOld
import Derived.Below
set_option maxRecDepth 100000
set_option linter.unusedVariables false
set_option linter.unusedSimpArgs false
set_option linter.unusedSectionVars false
section
namespace Go.Proofs.YtdnaegleifhmgaaGreat
open Go.RowKit Go.Lib Go.Tk Go.Shelf Go.Vc Go.Sx Go.WideShapes
section
variable {H : Type} {enc : TypeId × Value → H} {w : World} {base : Nat} {spare : Nat → Bool} {held : Bool}
end
end Go.Proofs.YtdnaegleifhmgaaGreat
end
section
namespace Go.Proofs.YtdnaegleifhmgaaGreat
open Go.RowKit Go.Lib Go.Tk Go.Shelf Go.Vc Go.Sx Go.WideShapes
def saleC (s : SaleV) (A : SaleA) : List Value := [.string s.name, .slice A.la s.legs.length A.lc, .int .i64 s.fare, .slice A.ta s.taxes.length A.tc, .int .i64 s.pen]
section
variable {H : Type} {enc : TypeId × Value → H} {w : World} {base : Nat} {spare : Nat → Bool} {held : Bool}
theorem FlatAs.split : ∀ {ts us : List TypeId} {cs : List Value}, FlatAs enc Tryz.prog w base spare held (ts ++ us) cs → ∃ a b, cs = a ++ b ∧ FlatAs enc Tryz.prog w base spare held ts a ∧ FlatAs enc Tryz.prog w base spare held us b
  | [], us, cs, h => ⟨[], cs, rfl, rfl, h⟩
  | t :: ts, us, cs, ⟨v, cs', e, hv, h⟩ => by
    obtain ⟨a, b, h1, ha, hb⟩ := FlatAs.split h
    subst h1
    subst e
    exact ⟨v :: a, b, rfl, ⟨v, a, rfl, hv, ha⟩, hb⟩
theorem sale_of {cs : List Value} (h : FlatAs enc Tryz.prog w base spare held [9, 32, 2, 33, 2] cs) : ∃ s A, saleC s A = cs ∧ SaleAt w s A ∧ SaleW s := by
  obtain ⟨v0, _, rfl, ⟨n0, y0, h0⟩, v1, _, rfl, ⟨n1, y1, h1⟩, v2, _, rfl, ⟨n2, y2, h2⟩, v3, _, rfl, ⟨n3, y3, h3⟩, v4, _, rfl, ⟨n4, y4, h4⟩, rfl⟩ := h
  obtain ⟨a0, e0, w0⟩ := string_cell Tryz.underlying9 h0
  cases e0
  obtain ⟨b1, a1, c1, e1, r1, i1, m1, o1⟩ := legs_cell h1
  cases e1
  obtain ⟨a2, e2, w2⟩ := int_cell Tryz.underlying2 h2
  cases e2
  obtain ⟨b3, a3, c3, e3, r3, i3, m3, o3⟩ := taxes_cell h3
  cases e3
  obtain ⟨a4, e4, w4⟩ := int_cell Tryz.underlying2 h4
  cases e4
  exact ⟨⟨a0, a1, a2, a3, a4⟩, ⟨b1, c1, b3, c3⟩, rfl, ⟨r1, r3, i1, i3⟩, ⟨w0, o1, o3, wfi64 w2, wfi64 w4, m1, m3⟩⟩
end
end Go.Proofs.YtdnaegleifhmgaaGreat
end
section
namespace Go.Proofs.YtdnaegleifhmgaaGreat
open Go.RowKit Go.Lib Go.Tk Go.Shelf Go.Vc Go.Sx Go.WideShapes
structure CmX where
  c : CmtV
  A : SaleA
def cmHeadC (c : CmtV) : List Value := [.int .u8 c.car, .int .u8 c.kind, .int .u8 c.cmd.kind, .int .u8 c.cmd.t.c, .int .u64 c.cmd.t.r, .int .u8 c.cmd.i]
def cmMidC (c : CmtV) : List Value := [.int .i64 c.cmd.amt, .int .u8 c.src, .int .u64 c.num]
def cmC (x : CmX) : List Value := cmHeadC x.c ++ (saleC x.c.cmd.s x.A ++ (cmMidC x.c ++ msL x.c.m))
structure CmIn (w : World) (x : CmX) : Prop where
  at_ : SaleAt w x.c.cmd.s x.A
  ok : SaleW x.c.cmd.s
  car : 0 ≤ x.c.car ∧ x.c.car ≤ 255
  kind : 0 ≤ x.c.kind ∧ x.c.kind ≤ 255
  ck : 0 ≤ x.c.cmd.kind ∧ x.c.cmd.kind ≤ 255
  ct : TidOk x.c.cmd.t
  ci : 0 ≤ x.c.cmd.i ∧ x.c.cmd.i ≤ 255
  src : 0 ≤ x.c.src ∧ x.c.src ≤ 255
  key : KidOk x.c.m.key
section
variable {H : Type} {enc : TypeId × Value → H} {w : World} {base : Nat} {spare : Nat → Bool} {held : Bool}
theorem cmHead_of {cs : List Value} (h : FlatAs enc Tryz.prog w base spare held [5, 5, 5, 5, 29, 5] cs) : ∃ a b c : Int, ∃ t : Tid, ∃ i : Int, [Value.int .u8 a, .int .u8 b, .int .u8 c, .int .u8 t.c, .int .u64 t.r, .int .u8 i] = cs ∧ (0 ≤ a ∧ a ≤ 255) ∧ (0 ≤ b ∧ b ≤ 255) ∧ (0 ≤ c ∧ c ≤ 255) ∧ TidOk t ∧ 0 ≤ i ∧ i ≤ 255 := by
  obtain ⟨v0, _, rfl, ⟨n0, y0, h0⟩, v1, _, rfl, ⟨n1, y1, h1⟩, v2, _, rfl, ⟨n2, y2, h2⟩, v3, _, rfl, ⟨n3, y3, h3⟩, v4, _, rfl, ⟨n4, y4, h4⟩, v5, _, rfl, ⟨n5, y5, h5⟩, rfl⟩ := h
  obtain ⟨a0, e0, w0⟩ := int_cell Tryz.underlying5 h0
  cases e0
  obtain ⟨a1, e1, w1⟩ := int_cell Tryz.underlying5 h1
  cases e1
  obtain ⟨a2, e2, w2⟩ := int_cell Tryz.underlying5 h2
  cases e2
  obtain ⟨a3, e3, w3⟩ := int_cell Tryz.underlying5 h3
  cases e3
  obtain ⟨a4, e4, w4⟩ := int_cell Tryz.underlying29 h4
  cases e4
  obtain ⟨a5, e5, w5⟩ := int_cell Tryz.underlying5 h5
  cases e5
  exact ⟨a0, a1, a2, ⟨a3, a4⟩, a5, rfl, wfu8 w0, wfu8 w1, wfu8 w2, ⟨wfu8 w3, wfu64 w4⟩, wfu8 w5⟩
theorem cmMid_of {cs : List Value} (h : FlatAs enc Tryz.prog w base spare held [2, 5, 29] cs) : ∃ a b c : Int, [Value.int .i64 a, .int .u8 b, .int .u64 c] = cs ∧ 0 ≤ b ∧ b ≤ 255 := by
  obtain ⟨v0, _, rfl, ⟨n0, y0, h0⟩, v1, _, rfl, ⟨n1, y1, h1⟩, v2, _, rfl, ⟨n2, y2, h2⟩, rfl⟩ := h
  obtain ⟨a0, e0, w0⟩ := int_cell Tryz.underlying2 h0
  cases e0
  obtain ⟨a1, e1, w1⟩ := int_cell Tryz.underlying5 h1
  cases e1
  obtain ⟨a2, e2, w2⟩ := int_cell Tryz.underlying29 h2
  cases e2
  exact ⟨a0, a1, a2, rfl, wfu8 w1⟩
theorem cmMsg_of {cs : List Value} (h : FlatAs enc Tryz.prog w base spare held [5, 5, 29, 5, 5, 40, 41, 2, 44, 41, 2, 26] cs) : ∃ m : MsV, msL m = cs ∧ KidOk m.key := by
  obtain ⟨v0, _, rfl, ⟨n0, y0, h0⟩, v1, _, rfl, ⟨n1, y1, h1⟩, v2, _, rfl, ⟨n2, y2, h2⟩, v3, _, rfl, ⟨n3, y3, h3⟩, v4, _, rfl, ⟨n4, y4, h4⟩, v5, _, rfl, ⟨n5, y5, h5⟩, v6, _, rfl, ⟨n6, y6, h6⟩, v7, _, rfl, ⟨n7, y7, h7⟩, v8, _, rfl, ⟨n8, y8, h8⟩, v9, _, rfl, ⟨n9, y9, h9⟩, v10, _, rfl, ⟨n10, y10, h10⟩, v11, _, rfl, ⟨n11, y11, h11⟩, rfl⟩ := h
  obtain ⟨a0, e0, w0⟩ := int_cell Tryz.underlying5 h0
  cases e0
  obtain ⟨a1, e1, w1⟩ := int_cell Tryz.underlying5 h1
  cases e1
  obtain ⟨a2, e2, w2⟩ := int_cell Tryz.underlying29 h2
  cases e2
  obtain ⟨a3, e3, w3⟩ := int_cell Tryz.underlying5 h3
  cases e3
  obtain ⟨a4, e4, w4⟩ := int_cell Tryz.underlying5 h4
  cases e4
  obtain ⟨a5, e5, w5⟩ := int_cell Tryz.underlying40 h5
  cases e5
  obtain ⟨a6, e6, w6⟩ := int_cell Tryz.underlying41 h6
  cases e6
  obtain ⟨a7, e7, w7⟩ := int_cell Tryz.underlying2 h7
  cases e7
  obtain ⟨a8, e8, w8⟩ := int_cell Tryz.underlying44 h8
  cases e8
  obtain ⟨a9, e9, w9⟩ := int_cell Tryz.underlying41 h9
  cases e9
  obtain ⟨a10, e10, w10⟩ := int_cell Tryz.underlying2 h10
  cases e10
  obtain ⟨a11, e11, w11⟩ := int_cell Tryz.underlying26 h11
  cases e11
  exact ⟨⟨a0, ⟨⟨a1, a2⟩, a3⟩, ⟨⟨a4, a5, a6⟩, a7, a8, a9⟩, a10, a11⟩, rfl, ⟨wfu8 w1, wfu64 w2⟩, wfu8 w3⟩
def cmTs : List TypeId := [5, 5, 5, 5, 29, 5] ++ ([9, 32, 2, 33, 2] ++ ([2, 5, 29] ++ [5, 5, 29, 5, 5, 40, 41, 2, 44, 41, 2, 26]))
theorem cm_of {cs : List Value} (h : FlatAs enc Tryz.prog w base spare held cmTs cs) : ∃ x : CmX, cmC x = cs ∧ CmIn w x := by
  obtain ⟨x1, r1, e1, h1, g1⟩ := FlatAs.split h
  obtain ⟨x2, r2, e2, h2, g2⟩ := FlatAs.split g1
  obtain ⟨x3, x4, e3, h3, h4⟩ := FlatAs.split g2
  obtain ⟨a, b, c, t, i, f1, k1, k2, k3, k4, k5⟩ := cmHead_of h1
  obtain ⟨s, A, f2, s1, s2⟩ := sale_of h2
  obtain ⟨am, src, num, f3, k6⟩ := cmMid_of h3
  obtain ⟨m, f4, k7⟩ := cmMsg_of h4
  refine ⟨⟨⟨a, b, ⟨c, t, i, s, am⟩, src, num, m⟩, A⟩, ?_, ⟨s1, s2, k1, k2, k3, k4, k5, k6, k7⟩⟩
  rw [e1, e2, e3, ← f1, ← f2, ← f3, ← f4]
  rfl
theorem cm_flat : flatT Tryz.prog 6 52 = some cmTs := by kernel_rfl
theorem cms_cell {n : Nat} {v : Value} {y : DataW H × List MemPlace} (h : DataW.trod enc Tryz.prog w base spare held n 22 [v] = some y) :
    ∃ (a : Option Addr) (l : List CmX) (c : Nat), v = .slice a l.length c ∧ Row w a (cellsL cmC l) ∧ (a = none → c = 0) ∧ l.length ≤ maxLen ∧ ∀ x ∈ l, CmIn w x := by
  obtain ⟨a, len, cap, rows, rfl, hlen, hrows, hr, hn, hm, _⟩ := slice_rows (fun cs => ∃ l : CmX, cmC l = cs ∧ CmIn w l) Tryz.underlying22 (show Tryz.prog.cellsOf 52 = 26 by kernel_rfl) (by decide)
    (fun n cs y hl h => cm_of (flat_of 6 _ _ cm_flat n cs y h (by rw [hl]; kernel_rfl))) h
  obtain ⟨l, hl⟩ := listOf (enc := fun x : { x : CmX // CmIn w x } => cmC x.1) (Q := fun cs => ∃ l : CmX, cmC l = cs ∧ CmIn w l) (fun r ⟨x, hx, hk⟩ => ⟨⟨x, hk⟩, hx⟩) rows (fun r hr => (hrows r hr).2)
  have hl2 : (l.map (·.1)).map cmC = rows := by rw [List.map_map]; exact hl
  have hl3 : (l.map (·.1)).length = len := by rw [← hlen, ← hl2]; simp
  refine ⟨a, l.map (·.1), cap, by rw [hl3], ?_, hn, by rw [hl3]; exact hm, fun x hx => ?_⟩
  · unfold cellsL; rw [hl2]; exact hr
  · obtain ⟨z, _, rfl⟩ := List.mem_map.1 hx; exact z.2
theorem open_cm {r : Reach} {b0 : Nat} {v : Value} {d : DataW H} {p : List MemPlace} (hv : Value.okWide Tryz.prog w r b0 52 v) (h : DataW.Trod enc Tryz.prog w base spare held 52 v d p) :
    ∃ x : CmX, v = .agg (cmC x).toArray ∧ CmIn w x := by
  obtain ⟨cs, rfl, hf⟩ := flat_open 6 Tryz.underlying52 cm_flat hv h
  obtain ⟨x, rfl, ok⟩ := cm_of hf
  exact ⟨x, rfl, ok⟩
end
end Go.Proofs.YtdnaegleifhmgaaGreat
end
section
namespace Go.Proofs.YtdnaegleifhmgaaGreat
open Go.RowKit Go.Lib Go.Tk Go.Shelf Go.Vc Go.Sx
def t15 : Tid := ⟨1, 1⟩
end Go.Proofs.YtdnaegleifhmgaaGreat
end
section
namespace Go.Proofs.YtdnaegleifhmgaaGreat
open Go.RowKit Go.Lib Go.Tk Go.Shelf Go.Vc Go.Sx
theorem load_openG3 {P : Program} {t k j : Nat} {F : Nat → Value → Chunk} {a : Option Addr} {xs : List Value} {cs : List SV} {u : SV} (q1 q2 q3 : Nat) (hu : Go.Sx.partAt P t cs (q1 + q2 + q3) = some u) (hR : ∀ b v, Rd (F b v) a xs) (hc : ∀ ε i v, cs[i]? = some v → xs[k + i]? = some (v.den ε)) (h0 : 0 < xs.length) :
    OpG P (isLoad t) loadX [.val (.pointer (some (((((a.getD ⟨0, 0, none⟩).add k).add q1).add q2).add q3)))] [((0, j), .fam F)] [] u [] := by
  have := load_openG (j := j) (q1 + q2 + q3) hu hR hc h0
  have e : ∀ x : Addr, ((x.add q1).add q2).add q3 = x.add (q1 + q2 + q3) := fun x => by
    by_cases hk : q1 = 0 <;> by_cases hj : q2 = 0 <;> by_cases hl : q3 = 0 <;> simp [Addr.add, hk, hj, hl, Nat.add_assoc]
  rw [e]
  exact this
end Go.Proofs.YtdnaegleifhmgaaGreat
end
section
namespace Go.Proofs.YtdnaegleifhmgaaGreat
open Go.RowKit Go.Lib Go.Tk Go.Shelf Go.Vc Go.Sx Go.Maps Go.Sort
def plR (l : List PlaceV) : SC := .row 61 8 l.length (.shal (cellsL placeL l)) []
theorem placesC {B : LedV} (h : LedG B) (hl : B.slips.length ≤ 1000000) : CallOK Tryz.prog PlacesF [.ptr 0 0 0] [] (ledC B) (.raw 1 0) (ledC B ++ [((1, 0), plR (plL B))]) := by
  have hk : ∀ p ∈ B.slips, p.2.p.key = p.1 := fun p hp => (h.ok.key _ _ (lkt_of h.knd hp)).1
  have c := places_w B h.knd hk hl
  have e : placesR B = plR (plL B) := by
    unfold placesR plR
    rw [plL_len]
    congr 2
    unfold plL cellsL
    rw [List.map_map]
    congr 1
    refine List.map_congr_left fun k hk2 => ?_
    have hk3 := (sortBy_perm cfK (B.slips.map (·.1))).mem_iff.1 hk2
    obtain ⟨p, hp, rfl⟩ := List.mem_map.1 hk3
    have e1 := lkt_of h.knd hp
    show encP B.slips p.1 = placeL (sAt B.slips p.1).p
    unfold encP sAt
    rw [e1, Option.getD_some]
    have := hk p hp
    obtain ⟨k, ⟨⟨key, way, car, st, non, paid⟩, l, v⟩⟩ := p
    have e : key = k := this
    subst e
    rfl
  rw [e] at c
  exact c
theorem place_nth {l : List PlaceV} {i : Nat} (h : i < l.length) : ∀ (ε : Env) (q : Nat) (v : SV), (placeS (pAt l i))[q]? = some v → (cellsL placeL l)[i * 8 + q]? = some (v.den ε) :=
  cells_nth (enc := placeL) (encS := placeS) (fun _ _ => rfl) (fun _ => rfl) (getD_some h place0)
def CmT : TypeId := 22
def cmZ : CmX := ⟨⟨0, 0, ⟨0, ⟨0, 0⟩, 0, ⟨⟨#[]⟩, [], 0, [], 0⟩, 0⟩, 0, 0, ⟨0, ⟨⟨0, 0⟩, 0⟩, ⟨⟨0, 0, 0⟩, 0, 0, 0⟩, 0, 0⟩⟩, ⟨none, 0, none, 0⟩⟩
def cmX (x : CmX) : List SV := cmtS x.c x.A
theorem cmX_den (x : CmX) (ε : Env) : SV.dens ε (cmX x) = cmC x := rfl
theorem cm_nth {l : List CmX} {i : Nat} (h : i < l.length) : ∀ (ε : Env) (q : Nat) (v : SV), (cmX (l.getD i cmZ))[q]? = some v → (cellsL cmC l)[i * 26 + q]? = some (v.den ε) :=
  cells_nth (enc := cmC) (encS := cmX) cmX_den (fun _ => rfl) (getD_some h cmZ)
theorem cm_len (l : List CmX) : (cellsL cmC l).length = l.length * 26 := cellsL_len (enc := cmC) (size := 26) (fun _ => rfl) l
def recS (x : CmX) : List SV := (cmtS x.c x.A).drop 1
def greatC (x : CmX) : Bool := decide ((20 : Int) < (x.c.cmd.s.legs.length : Int)) || (decide ((20 : Int) < (x.c.cmd.s.taxes.length : Int)) || decide ((200 : Int) < (x.c.cmd.s.name.size : Int)))
def greatB24 (l : List CmX) : Bool := decide ((150 : Int) < (l.length : Int)) || l.any greatC
def Great24F : Nat := 8
theorem great24_w (F : CF) {a : Option Addr} {cap : Nat} {l : List CmX} (hR : ∀ b v, Rd (F b v) a (cellsL cmC l)) :
    CallOK Tryz.prog Great24F [.val (.slice a l.length cap)] [((0, 9), .fam F)] [] (.val (.bool (greatB24 l))) [] := by
  rcases Bool.eq_false_or_eq_true (decide ((150 : Int) < (l.length : Int))) with g | g
  · rw [show greatB24 l = true by unfold greatB24; rw [g]; rfl]
    exact callOK_run 400 [hB 1 2 _ _ g] (by kernel_rfl) (by kernel_rfl)
  have hl150 : l.length ≤ 150 := by have := of_decide_eq_false g; omega
  refine callOK_intro (by kernel_rfl) fun eb R => ?_
  refine go_loop (X := { i : Nat // i ≤ l.length ∧ ∀ j, j < i → greatC (l.getD j cmZ) = false }) 0 [] (fun x => ([(0, .val (.slice a l.length cap)), (3, .val (.int .i64 (x.1 : Int)))], [((0, 9), .fam F)])) (fun x => l.length - x.1) ⟨0, Nat.zero_le _, fun j hj => absurd hj (Nat.not_lt_zero _)⟩ calNone false 400 [hB 1 2 _ _ g] calNone_ok (by kernel_rfl) ?_
  rintro ⟨i, hi, hd⟩ J hJ
  by_cases h : i < l.length
  · have hin : l.getD i cmZ ∈ l := List.mem_of_getElem? (getD_some h cmZ)
    have q0 : decide ((i : Int) < (l.length : Int)) = true := decide_eq_true (by omega)
    have q1 := idx_openG (P := Tryz.prog) (t := CmT) (e := 52) (size := 26) (j := 9) (k := .i64) (cap := cap) (n := l.length) Tryz.underlying22 (by kernel_rfl) (cm_len l) hR h
    have hpos : 0 < (cellsL cmC l).length := by rw [cm_len]; omega
    have q2 := load_openG3 (P := Tryz.prog) (t := 35) (k := i * 26) (j := 9) (u := .agg (salS (l.getD i cmZ).c.cmd.s (.val (.slice (l.getD i cmZ).A.la (l.getD i cmZ).c.cmd.s.legs.length (l.getD i cmZ).A.lc)) (.val (.slice (l.getD i cmZ).A.ta (l.getD i cmZ).c.cmd.s.taxes.length (l.getD i cmZ).A.tc)))) 1 1 4 (by kernel_rfl) hR (cm_nth h) hpos
    have q9 : IntKind.i64.wrap ((i : Int) + 1) = ((i + 1 : Nat) : Int) := by rw [wr_i64 (by omega)]; omega
    have bad : greatC (l.getD i cmZ) = true → greatB24 l = true := fun e => by
      unfold greatB24
      rw [List.any_eq_true.2 ⟨_, hin, e⟩, Bool.or_true]
    have good : greatC (l.getD i cmZ) = false → ∀ j, j < i + 1 → greatC (l.getD j cmZ) = false := fun e j hj => by
      by_cases q : j = i
      · subst q; exact e
      · exact hd j (by omega)
    generalize hx : l.getD i cmZ = x at *
    rcases Bool.eq_false_or_eq_true (decide ((20 : Int) < (x.c.cmd.s.legs.length : Int))) with g1 | g1
    · rw [bad (by unfold greatC; rw [g1]; rfl)]
      exact leaf_end calNone false 400 [hB 4 3 _ _ q0, hG 6 2 q1, hG 6 6 q2, hB 7 3 _ _ g1] calNone_ok (by kernel_rfl)
    rcases Bool.eq_false_or_eq_true (decide ((20 : Int) < (x.c.cmd.s.taxes.length : Int))) with g2 | g2
    · rw [bad (by unfold greatC; rw [g1, g2]; rfl)]
      exact leaf_end calNone false 400 [hB 4 3 _ _ q0, hG 6 2 q1, hG 6 6 q2, hB 7 3 _ _ g1, hB 7 8 _ _ g2] calNone_ok (by kernel_rfl)
    rcases Bool.eq_false_or_eq_true (decide ((200 : Int) < (x.c.cmd.s.name.size : Int))) with g3 | g3
    · rw [bad (by unfold greatC; rw [g1, g2, g3]; rfl)]
      exact leaf_end calNone false 400 [hB 4 3 _ _ q0, hG 6 2 q1, hG 6 6 q2, hB 7 3 _ _ g1, hB 7 8 _ _ g2, hB 7 14 _ _ g3] calNone_ok (by kernel_rfl)
    have gg : greatC x = false := by unfold greatC; rw [g1, g2, g3]; rfl
    have hJ' := hJ ⟨i + 1, h, good gg⟩ (by show _ - (i + 1) < _ - i; omega)
    exact leaf_next calNone false 400 [hB 4 3 _ _ q0, hG 6 2 q1, hG 6 6 q2, hB 7 3 _ _ g1, hB 7 8 _ _ g2, hB 7 14 _ _ g3, hI 5 1 IntKind.i64 _ _ q9] calNone_ok hJ' (by kernel_rfl)
  · have q0 : decide ((i : Int) < (l.length : Int)) = false := decide_eq_false (by omega)
    have e : greatB24 l = false := by
      unfold greatB24
      rw [g, Bool.false_or, List.any_eq_false]
      intro x hx
      obtain ⟨j, hj, rfl⟩ := List.getElem_of_mem hx
      have := hd j (by omega)
      rw [List.getD_eq_getElem?_getD, List.getElem?_eq_getElem hj] at this
      simpa using this
    rw [e]
    exact leaf_end calNone false 400 [hB 4 3 _ _ q0] calNone_ok (by kernel_rfl)
theorem greatB24_no {l : List CmX} (h : greatB24 l = false) : l.length ≤ 150 ∧ ∀ x ∈ l, x.c.cmd.s.legs.length ≤ 20 ∧ x.c.cmd.s.taxes.length ≤ 20 := by
  unfold greatB24 at h
  rw [Bool.or_eq_false_iff] at h
  refine ⟨by have := of_decide_eq_false h.1; omega, fun x hx => ?_⟩
  have := List.any_eq_false.1 h.2 x hx
  unfold greatC at this
  simp only [Bool.not_eq_true, Bool.or_eq_false_iff, decide_eq_false_iff_not] at this
  omega
structure CmRd (F : CF) (x : CmX) : Prop where
  wf : CmtWf x.c
  hl : ∀ b v, Rd (F b v) x.A.la (cellsL encLeg x.c.cmd.s.legs)
  ht : ∀ b v, Rd (F b v) x.A.ta (cellsL encTax x.c.cmd.s.taxes)
  h1 : SlOk x.A.la x.c.cmd.s.legs.length x.A.lc
  h2 : SlOk x.A.ta x.c.cmd.s.taxes.length x.A.tc
theorem cslOk_row {w : World} {a : Option Addr} {xs : List Value} {n c : Nat} (hr : Row w a xs) (hx : a = none → xs.length = 0 → n = 0) (hn : a = none → c = 0) : SlOk a n c := ⟨fun e => ⟨hx e (by
  subst e
  cases hl : xs.length with
  | zero => rfl
  | succ k =>
    obtain ⟨b, off, h, -⟩ := hr 0 (by omega)
    cases h), hn e⟩⟩
theorem cmRd_of {w : World} {x : CmX} (h : CmIn w x) (h1 : x.c.cmd.s.legs.length ≤ 1000) (h2 : x.c.cmd.s.taxes.length ≤ 1000) : CmRd (fun _ _ => oldC w) x where
  wf := ⟨h.car, h.kind, h.src, h.ck, h.ct, h.ci, h.ok.small h1 h2, h.key⟩
  hl := fun _ _ => rd_old h.at_.legs
  ht := fun _ _ => rd_old h.at_.taxes
  h1 := cslOk_row h.at_.legs (fun _ e => by rw [cellsL_len encLeg_len] at e; omega) h.at_.lnil
  h2 := cslOk_row h.at_.taxes (fun _ e => by rw [cellsL_len (enc := encTax) (size := 2) (fun _ => rfl)] at e; omega) h.at_.tnil
theorem step_x {F : CF} {B : LedV} (hb : LedG B) {x : CmX} (h : CmRd F x) : CallOK Tryz.prog StepLF [.ptr 0 0 0, .agg (cmX x)] [((0, 9), .fam F)] (ledC B) (stV' (StR B x.c)) (ledC (StR B x.c).b ++ [((1, 0), stVL (StR B x.c).st)]) := step_c F hb h.wf h.hl h.ht h.h1 h.h2
theorem nd_sub_len {α : Type} [DecidableEq α] : ∀ (l m : List α), l.Nodup → (∀ x ∈ l, x ∈ m) → l.length ≤ m.length
  | [], m, _, _ => Nat.zero_le _
  | x :: l, m, hn, h => by
    rw [List.nodup_cons] at hn
    have hx := h x List.mem_cons_self
    have ih := nd_sub_len l (m.erase x) hn.2 fun y hy => (List.mem_erase_of_ne (fun e => hn.1 (by rw [← e]; exact hy))).2 (h y (List.mem_cons_of_mem _ hy))
    rw [List.length_erase_of_mem hx] at ih
    have : 0 < m.length := List.length_pos_of_mem hx
    rw [List.length_cons]; omega
theorem split_len {α : Type} (p : α → Bool) : ∀ l : List α, l.length = (l.filter p).length + (l.filter fun x => !p x).length
  | [] => rfl
  | x :: l => by
    have ih := split_len p l
    cases h : p x <;> simp [List.filter_cons, h] <;> omega
def kids4 (d : DocV) : List Kid := [⟨d.t, 0⟩, ⟨d.t, 1⟩, ⟨d.t, 2⟩, ⟨d.t, 3⟩]
theorem kids4_len : ∀ ds : List DocV, (ds.flatMap kids4).length = ds.length * 4
  | [] => rfl
  | d :: r => by
    rw [List.flatMap_cons, List.length_append, kids4_len r, List.length_cons]
    show 4 + _ = _
    omega
theorem docs_few : ∀ (n : Nat) (ds : List DocV), (∀ d ∈ ds, 0 ≤ d.t.c ∧ d.t.c < (n : Int)) → (∀ c, cntC ds c ≤ 32) → ds.length ≤ n * 32
  | 0, [], _, _ => Nat.le_refl _
  | 0, d :: r, h1, _ => by have := h1 d List.mem_cons_self; omega
  | n + 1, ds, h1, h2 => by
    have h3 := docs_few n (ds.filter fun d => !decide (d.t.c = (n : Int))) (fun d hd => by
      have hd := List.mem_filter.1 hd
      have := h1 d hd.1
      have h4 : d.t.c ≠ (n : Int) := by simpa using hd.2
      omega) (fun c => by
      have := h2 c
      unfold cntC at this ⊢
      rw [List.filter_filter]
      have e : (ds.filter fun a => decide (a.t.c = c) && !decide (a.t.c = (n : Int))) = (ds.filter fun a => decide (a.t.c = c)).filter fun a => !decide (a.t.c = (n : Int)) := by
        rw [List.filter_filter]
        congr 1
        funext a
        rw [Bool.and_comm]
      rw [e]
      exact Nat.le_trans (List.length_filter_le _ _) this)
    have h5 := h2 (n : Int)
    unfold cntC at h5
    have h6 := split_len (fun d : DocV => decide (d.t.c = (n : Int))) ds
    omega
theorem slips_few {B : LedV} (h : LedG B) : B.slips.length ≤ 1000000 := by
  have hd : B.docs.length ≤ 8 * 32 := docs_few 8 B.docs (fun d hd => ⟨(h.ok.tid d hd).1.1, by have := h.car d hd; have := h.ok.n.2; omega⟩) h.cnt
  have hs := nd_sub_len (B.slips.map (·.1)) (B.docs.flatMap kids4) h.knd fun k hk => by
    have e : (lkt B.slips k).isSome = true := by
      cases g : lkt B.slips k with
      | none => exact absurd hk (lkt_none.1 g)
      | some s => rfl
    obtain ⟨d, hd, h1, h2, h3⟩ := (h.keys k).1 e
    have := h.ok.vals d hd
    refine List.mem_flatMap.2 ⟨d, hd, ?_⟩
    obtain ⟨kt, ki⟩ := k
    simp only at h1 h2 h3
    rcases (show ki = 0 ∨ ki = 1 ∨ ki = 2 ∨ ki = 3 by omega) with rfl | rfl | rfl | rfl <;> simp [kids4, h1]
  rw [List.length_map, kids4_len] at hs
  omega
theorem LedG.step {B : LedV} (h : LedG B) {c : CmtV} (hc : CmtWf c) : LedG (StR B c).b := (StR_ok h hc).g
end Go.Proofs.YtdnaegleifhmgaaGreat
end
section
namespace Go.Proofs.YtdnaegleifhmgaaGreat
open Go.RowKit Go.Lib Go.Tk Go.Shelf Go.Vc Go.Sx Go.Maps Go.Sort
def ctEq (a b : Tid) : Bool := decide (a.c = b.c) && (decide (a.r = b.r) && true)
def ckEq (a b : Kid) : Bool := (decide (a.t.c = b.t.c) && (decide (a.t.r = b.t.r) && true)) && (decide (a.i = b.i) && true)
def cpEq (a b : PlaceV) : Bool := ckEq a.key b.key && ((a.way == b.way) && (decide (a.car = b.car) && (decide (a.st = b.st) && (decide (a.nonce = b.nonce) && ((a.paid == b.paid) && true)))))
theorem ctEq_iff (a b : Tid) : ctEq a b = true ↔ a = b := by
  obtain ⟨a1, a2⟩ := a
  obtain ⟨b1, b2⟩ := b
  simp [ctEq]
theorem ckEq_iff (a b : Kid) : ckEq a b = true ↔ a = b := by
  obtain ⟨⟨a1, a2⟩, a3⟩ := a
  obtain ⟨⟨b1, b2⟩, b3⟩ := b
  simp [ckEq, and_assoc]
theorem cpEq_iff (a b : PlaceV) : cpEq a b = true ↔ a = b := by
  obtain ⟨a1, a2, a3, a4, a5, a6⟩ := a
  obtain ⟨b1, b2, b3, b4, b5, b6⟩ := b
  unfold cpEq
  rw [Bool.and_eq_true, ckEq_iff]
  simp
theorem ckEq_no {a b : Kid} (h : a ≠ b) : ckEq a b = false := by
  cases e : ckEq a b with
  | false => rfl
  | true => exact absurd ((ckEq_iff a b).1 e) h
def Alone24F : Nat := 3
def aloSl (a : Option Addr) (n cap i : Nat) : Slots := [(1, .val (.slice a n cap)), (5, .ptr 1 0 0), (7, .val (.int .i64 (i : Int)))]
def aloH (F : CF) (B : LedV) : Heap := [((0, 9), .fam F), ((1, 0), .fam (ledF B))]
def aloS2 : Slots := [(8, .ptr 1 1 0), (9, .raw 1 2), (10, .raw 1 3), (11, .ptr 1 4 0)]
def aloH2 (F : CF) (C : LedV) (x : CmX) (was now : List PlaceV) (nm : Kid) : Heap := aloH F C ++ [((1, 1), .box none (recS x)), ((1, 2), plR was), ((1, 3), plR now), ((1, 4), .box none (kidS nm))]
theorem alone_pre (F : CF) {a : Option Addr} {cap i : Nat} {l : List CmX} (hR : ∀ b v, Rd (F b v) a (cellsL cmC l)) (hi : i < l.length) {x : CmX} (hx : l.getD i cmZ = x) (ok : CmRd F x) {B : LedV} (hb : LedG B) {eb : Env} {R : List Chunk} {J : Act → World → Prop} {ret : SV} {rp : Heap}
    (hq : Go Tryz.prog Alone24F ret rp eb R .nrm (rgK Tryz.prog Alone24F 17 [J]) (aloSl a l.length cap i ++ (aloS2 ++ [(12, .val (.bool (wholeB x.c)))])) (aloH2 F (StR B x.c).b x (plL B) (plL (StR B x.c).b) (namedK x.c))) :
    Go Tryz.prog Alone24F ret rp eb R .nrm (rgK Tryz.prog Alone24F 9 [J]) (aloSl a l.length cap i) (aloH F B) := by
  have q1 := idx_openG (P := Tryz.prog) (t := CmT) (e := 52) (size := 26) (j := 9) (k := .i64) (cap := cap) (n := l.length) Tryz.underlying22 (by kernel_rfl) (cm_len l) hR hi
  have hpos : 0 < (cellsL cmC l).length := by rw [cm_len]; omega
  have q2 := load_openG (P := Tryz.prog) (t := 50) (k := i * 26) (j := 9) (u := .agg (recS (l.getD i cmZ))) 1 (by kernel_rfl) hR (cm_nth hi) hpos
  have q3 := load_openG0 (P := Tryz.prog) (t := 52) (k := i * 26) (j := 9) (u := .agg (cmX (l.getD i cmZ))) (by kernel_rfl) hR (cm_nth hi) hpos
  rw [hx] at q2 q3
  have s1 := step_x hb ok
  have hb' := hb.step ok.wf
  have p1 := placesC hb (slips_few hb)
  have p2 := placesC hb' (slips_few hb')
  generalize StR B x.c = q at *
  clear hb hb' ok hx
  obtain ⟨⟨car, kind, ⟨ck, t, ii, s, amt⟩, src, num, m⟩, A⟩ := x
  by_cases k2 : kind = 2
  · subst k2
    exact leaf_cut (rgK Tryz.prog Alone24F 17 [J]) _ _ calNone false 400 [hG 9 2 q1, hG 9 4 q2, hC 10 1 p1, hG 11 3 q1, hG 11 4 q3, hC 11 5 s1, hC 12 1 p2, .stop 17] calNone_ok (by kernel_rfl) hq
  by_cases k1 : kind = 1
  · subst k1
    have e0 : namedK (⟨1 |> fun _ => car, 1, ⟨ck, t, ii, s, amt⟩, src, num, m⟩ : CmtV) = ⟨t, ii⟩ := rfl
    by_cases k3 : ck = 3
    · subst k3
      exact leaf_cut (rgK Tryz.prog Alone24F 17 [J]) _ _ calNone false 400 [hG 9 2 q1, hG 9 4 q2, hC 10 1 p1, hG 11 3 q1, hG 11 4 q3, hC 11 5 s1, hC 12 1 p2, .stop 17] calNone_ok (by kernel_rfl) hq
    have d3 : decide (ck = 3) = false := decide_eq_false k3
    by_cases k4 : ck = 4
    · subst k4
      exact leaf_cut (rgK Tryz.prog Alone24F 17 [J]) _ _ calNone false 400 [hG 9 2 q1, hG 9 4 q2, hC 10 1 p1, hG 11 3 q1, hG 11 4 q3, hC 11 5 s1, hC 12 1 p2, .stop 17] calNone_ok (by kernel_rfl) hq
    have d4 : decide (ck = 4) = false := decide_eq_false k4
    by_cases k5 : ck = 5
    · subst k5
      exact leaf_cut (rgK Tryz.prog Alone24F 17 [J]) _ _ calNone false 400 [hG 9 2 q1, hG 9 4 q2, hC 10 1 p1, hG 11 3 q1, hG 11 4 q3, hC 11 5 s1, hC 12 1 p2, .stop 17] calNone_ok (by kernel_rfl) hq
    have d5 : decide (ck = 5) = false := decide_eq_false k5
    have hw : wholeB (⟨car, 1, ⟨ck, t, ii, s, amt⟩, src, num, m⟩ : CmtV) = false := by
      show (decide ((1 : Int) = 1) && (decide (ck = 3) || (decide (ck = 4) || decide (ck = 5)))) = false
      rw [d3, d4, d5]; rfl
    simp only [hw] at hq
    exact leaf_cut (rgK Tryz.prog Alone24F 17 [J]) _ _ calNone false 400 [hG 9 2 q1, hG 9 4 q2, hC 10 1 p1, hG 11 3 q1, hG 11 4 q3, hC 11 5 s1, hC 12 1 p2, hB 16 7 _ _ d3, hB 16 12 _ _ d4, hB 16 18 _ _ d5, .stop 17] calNone_ok (by kernel_rfl) hq
  have d1 : decide (kind = 1) = false := decide_eq_false k1
  have d2 : decide (kind = 2) = false := decide_eq_false k2
  have hw : wholeB (⟨car, kind, ⟨ck, t, ii, s, amt⟩, src, num, m⟩ : CmtV) = false := by
    show (decide (kind = 1) && _) = false
    rw [d1]; rfl
  have hn : namedK (⟨car, kind, ⟨ck, t, ii, s, amt⟩, src, num, m⟩ : CmtV) = ⟨t, ii⟩ := by
    show (bif decide (kind = 2) then m.key else (⟨t, ii⟩ : Kid)) = _
    rw [d2]; rfl
  simp only [hw, hn] at hq
  exact leaf_cut (rgK Tryz.prog Alone24F 17 [J]) _ _ calNone false 400 [hG 9 2 q1, hG 9 4 q2, hC 10 1 p1, hG 11 3 q1, hG 11 4 q3, hC 11 5 s1, hC 12 1 p2, hB 14 2 _ _ d2, hB 16 2 _ _ d1, .stop 17] calNone_ok (by kernel_rfl) hq
end Go.Proofs.YtdnaegleifhmgaaGreat
end
section
namespace Go.Proofs.YtdnaegleifhmgaaGreat
open Go.RowKit Go.Lib Go.Tk Go.Shelf Go.Vc Go.Sx Go.Maps Go.Sort
theorem pl_load {l : List PlaceV} {k : Nat} (h : k < l.length) {t : TypeId} {u : SV} (j : Nat) (hu : Go.Sx.partAt Tryz.prog t (placeS (pAt l k)) j = some u) : OpG Tryz.prog (isLoad t) loadX [.elt 0 0 0 (k * 8) j] [((0, 0), plR l)] [] u [] :=
  load_eltG (P := Tryz.prog) (cs := placeS (pAt l k)) hu (place_nth h)
theorem alone_walk (F : CF) {a : Option Addr} {cap i : Nat} {l : List CmX} (hR : ∀ b v, Rd (F b v) a (cellsL cmC l)) (hi : i < l.length) (hl : l.length ≤ 150) {x : CmX} (hx : l.getD i cmZ = x) {was now : List PlaceV} (sa : Ups was) (sb : Ups now) (ha : was.length ≤ 1000000) (hb : now.length ≤ 1000000)
    (sub : ∀ p ∈ was, ∃ p' ∈ now, p'.key = p.key)
    (old : ∀ j k, j < was.length → k < now.length → (pAt now k).key = (pAt was j).key → pAt now k ≠ pAt was j → mayP x.c (pAt was j).key)
    (new : ∀ k, k < now.length → (∀ j, j < was.length → (pAt was j).key ≠ (pAt now k).key) → mayW x.c (pAt now k).key)
    {C : LedV} {eb : Env} {R : List Chunk} {J : Act → World → Prop}
    (hJ : ∀ ε a' w, Rel (ntOf Tryz.prog Alone24F) 1 eb R ⟨aloSl a l.length cap (i + 1), aloH F C, 2⟩ ε a' w → J a' w) :
    Go Tryz.prog Alone24F (.val (.bool true)) ([((0, 9), .fam F)] ++ []) eb R .nrm (rgK Tryz.prog Alone24F 17 [J]) (aloSl a l.length cap i ++ (aloS2 ++ [(12, .val (.bool (wholeB x.c)))])) (aloH2 F C x was now (namedK x.c)) := by
  have z8 : IntKind.i64.wrap ((i : Int) + 1) = ((i + 1 : Nat) : Int) := by rw [wr_i64 (by omega)]; omega
  refine go_loop (X := { y : Nat × Nat // Wk was now y.1 y.2 }) 1 [J] (fun y => (aloSl a l.length cap i ++ (aloS2 ++ [(12, .val (.bool (wholeB x.c))), (13, .val (.int .i64 (y.1.2 : Int))), (14, .val (.int .i64 (y.1.1 : Int)))]), aloH2 F C x was now (namedK x.c))) (fun y => was.length - y.1.1) ⟨(0, 0), Wk.start sub⟩ calNone false 400 [] calNone_ok (by kernel_rfl) ?_
  rintro ⟨⟨j, k0⟩, hw0⟩ J2 hJ2
  have hj1 : j ≤ was.length := hw0.hi
  by_cases hj : j < was.length
  · have y0 : decide ((j : Int) < (was.length : Int)) = true := decide_eq_true (by omega)
    refine go_loop (X := { k : Nat // Wk was now j k }) 2 [J, J2] (fun y => (aloSl a l.length cap i ++ (aloS2 ++ [(12, .val (.bool (wholeB x.c))), (13, .val (.int .i64 (y.1 : Int))), (14, .val (.int .i64 (j : Int)))]), aloH2 F C x was now (namedK x.c))) (fun y => now.length - y.1) ⟨k0, hw0⟩ calNone false 400 [hB 19 3 _ _ y0] calNone_ok (by kernel_rfl) ?_
    rintro ⟨k, hw⟩ J3 hJ3
    have hk : k < now.length := hw.fin hj
    have x0 : decide ((k : Int) < (now.length : Int)) = true := decide_eq_true (by omega)
    have x1 := pl_load hk (t := 39) (u := .agg (kidS (pAt now k).key)) 0 (by kernel_rfl)
    have x2 := pl_load hj (t := 39) (u := .agg (kidS (pAt was j).key)) 0 (by kernel_rfl)
    have z9 : IntKind.i64.wrap ((k : Int) + 1) = ((k + 1 : Nat) : Int) := by rw [wr_i64 (by omega)]; omega
    by_cases he : (pAt now k).key = (pAt was j).key
    · have e1 : (!ckEq (pAt now k).key (pAt was j).key) = false := by rw [(ckEq_iff _ _).2 he]; rfl
      unfold ckEq at e1
      have y1 : IntKind.i64.wrap ((j : Int) + 1) = ((j + 1 : Nat) : Int) := by rw [wr_i64 (by omega)]; omega
      have x3 : decide ((k : Int) = (now.length : Int)) = false := decide_eq_false (by omega)
      have x4 := pl_load hk (t := 61) (u := .agg (placeS (pAt now k))) 0 (by kernel_rfl)
      have x5 := pl_load hj (t := 61) (u := .agg (placeS (pAt was j))) 0 (by kernel_rfl)
      have hJ2' := hJ2 ⟨(j + 1, k + 1), hw.both sa sb hj hk he⟩ (by show _ - (j + 1) < _ - j; omega)
      have ho := old j k hj hk he
      clear hJ3 hJ2 hJ
      by_cases hp : pAt now k = pAt was j
      · have e2 : (!cpEq (pAt now k) (pAt was j)) = false := by rw [(cpEq_iff _ _).2 hp]; rfl
        unfold cpEq ckEq at e2
        exact leaf_round (lpK Tryz.prog Alone24F 1 [J]) false 400 [hB 21 3 _ _ x0, .opt 21 7 (.at_ 0 _ _ _ ⟨rfl, hk⟩), hG 21 9 x1, .opt 21 12 (.at_ 0 _ _ _ ⟨rfl, hj⟩), hG 21 14 x2, hB 21 15 _ _ e1, hB 25 3 _ _ x3, .opt 27 2 (.at_ 0 _ _ _ ⟨rfl, hk⟩), hG 27 3 x4, .opt 27 6 (.at_ 0 _ _ _ ⟨rfl, hj⟩), hG 27 7 x5, hB 27 8 _ _ e2, hI 29 1 IntKind.i64 _ _ z9, hI 20 1 IntKind.i64 _ _ y1] hJ2' (by kernel_rfl)
      · have hm := ho hp
        have e2 : (!cpEq (pAt now k) (pAt was j)) = true := by
          cases e : cpEq (pAt now k) (pAt was j) with
          | false => rfl
          | true => exact absurd ((cpEq_iff _ _).1 e) hp
        unfold cpEq ckEq at e2
        by_cases hq : (pAt was j).key = namedK x.c
        · have e3 : (!ckEq (pAt was j).key (namedK x.c)) = false := by rw [(ckEq_iff _ _).2 hq]; rfl
          unfold ckEq at e3
          clear ho hm
          exact leaf_round (lpK Tryz.prog Alone24F 1 [J]) false 400 [hB 21 3 _ _ x0, .opt 21 7 (.at_ 0 _ _ _ ⟨rfl, hk⟩), hG 21 9 x1, .opt 21 12 (.at_ 0 _ _ _ ⟨rfl, hj⟩), hG 21 14 x2, hB 21 15 _ _ e1, hB 25 3 _ _ x3, .opt 27 2 (.at_ 0 _ _ _ ⟨rfl, hk⟩), hG 27 3 x4, .opt 27 6 (.at_ 0 _ _ _ ⟨rfl, hj⟩), hG 27 7 x5, hB 27 8 _ _ e2, .opt 27 12 (.at_ 0 _ _ _ ⟨rfl, hj⟩), hG 27 14 x2, hB 27 16 _ _ e3, hI 29 1 IntKind.i64 _ _ z9, hI 20 1 IntKind.i64 _ _ y1] hJ2' (by kernel_rfl)
        · obtain ⟨hwb, ht⟩ := hm.resolve_left hq
          have e3 : (!ckEq (pAt was j).key (namedK x.c)) = true := by rw [ckEq_no hq]; rfl
          have e4 : (!ctEq (pAt was j).key.t (namedK x.c).t) = false := by rw [(ctEq_iff _ _).2 ht]; rfl
          unfold ckEq at e3
          unfold ctEq at e4
          have x6 := pl_load hj (t := 31) (u := .agg (tidS (pAt was j).key.t)) 0 (by kernel_rfl)
          clear ho hm
          rw [hwb] at hJ2' ⊢
          exact leaf_round (lpK Tryz.prog Alone24F 1 [J]) false 400 [hB 21 3 _ _ x0, .opt 21 7 (.at_ 0 _ _ _ ⟨rfl, hk⟩), hG 21 9 x1, .opt 21 12 (.at_ 0 _ _ _ ⟨rfl, hj⟩), hG 21 14 x2, hB 21 15 _ _ e1, hB 25 3 _ _ x3, .opt 27 2 (.at_ 0 _ _ _ ⟨rfl, hk⟩), hG 27 3 x4, .opt 27 6 (.at_ 0 _ _ _ ⟨rfl, hj⟩), hG 27 7 x5, hB 27 8 _ _ e2, .opt 27 12 (.at_ 0 _ _ _ ⟨rfl, hj⟩), hG 27 14 x2, hB 27 16 _ _ e3, .opt 27 24 (.at_ 0 _ _ _ ⟨rfl, hj⟩), hG 27 27 x6, hB 27 30 _ _ e4, hI 29 1 IntKind.i64 _ _ z9, hI 20 1 IntKind.i64 _ _ y1] hJ2' (by kernel_rfl)
    · have e1 : (!ckEq (pAt now k).key (pAt was j).key) = true := by rw [ckEq_no he]; rfl
      unfold ckEq at e1
      obtain ⟨k1, kc⟩ := new k hk (fun y hy => hw.other sa sb hk (fun _ => he) hy)
      have hJ3' := hJ3 ⟨k + 1, hw.skip sa sb hk (fun _ => he)⟩ (by show _ - (k + 1) < _ - k; omega)
      have q1 := idx_openG (P := Tryz.prog) (t := CmT) (e := 52) (size := 26) (j := 9) (k := .i64) (cap := cap) (n := l.length) Tryz.underlying22 (by kernel_rfl) (cm_len l) hR hi
      have hpos : 0 < (cellsL cmC l).length := by rw [cm_len]; omega
      have q2 := load_openG (P := Tryz.prog) (t := 5) (k := i * 26) (j := 9) (u := .val (.int .u8 (l.getD i cmZ).c.car)) 0 (by kernel_rfl) hR (cm_nth hi) hpos
      rw [hx] at q2
      have x7 := pl_load hk (t := 5) (u := .val (.int .u8 (pAt now k).key.t.c)) 0 (by kernel_rfl)
      have e5 : ((pAt now k).key.t.c != x.c.car) = false := by rw [kc]; simp
      clear hJ3 hJ2 hJ
      exact leaf_round (lpK Tryz.prog Alone24F 2 [J, J2]) false 400 [hB 21 3 _ _ x0, .opt 21 7 (.at_ 0 _ _ _ ⟨rfl, hk⟩), hG 21 9 x1, .opt 21 12 (.at_ 0 _ _ _ ⟨rfl, hj⟩), hG 21 14 x2, hB 21 15 _ _ e1, hI 22 1 IntKind.u8 _ _ k1, .opt 22 6 (.at_ 0 _ _ _ ⟨rfl, hk⟩), hG 22 10 x7, hG 22 13 q1, hG 22 15 q2, hB 22 16 _ _ e5, hI 24 1 IntKind.i64 _ _ z9] hJ3' (by kernel_rfl)
  · have he : j = was.length := by omega
    subst he
    have y0 : decide ((was.length : Int) < (was.length : Int)) = false := decide_eq_false (by omega)
    clear hJ2
    exact leaf_round (lpK Tryz.prog Alone24F 0 []) false 400 [hB 19 3 _ _ y0, hI 8 1 IntKind.i64 _ _ z8] hJ (by kernel_rfl)
end Go.Proofs.YtdnaegleifhmgaaGreat
end
section
namespace Go.Proofs.YtdnaegleifhmgaaGreat
open Go.RowKit Go.Lib Go.Tk Go.Shelf Go.Vc Go.Sx Go.Maps Go.Sort
def runL (n : Int) (l : List CmX) : Nat → LedV
  | 0 => ledNew n
  | i + 1 => (StR (runL n l i) (l.getD i cmZ).c).b
theorem runL_g {F : CF} {n : Int} {l : List CmX} (hn : ledE n = 0) (hok : ∀ x ∈ l, CmRd F x) : ∀ i, i ≤ l.length → LedG (runL n l i)
  | 0, _ => new_ok hn
  | i + 1, h => (runL_g hn hok i (by omega)).step (hok _ (List.mem_of_getElem? (getD_some (show i < l.length by omega) cmZ))).wf
theorem runL_n {F : CF} {n : Int} {l : List CmX} (hn : ledE n = 0) (hok : ∀ x ∈ l, CmRd F x) : ∀ i, i ≤ l.length → (runL n l i).n = n
  | 0, _ => rfl
  | i + 1, h => by
    have g := runL_g hn hok i (by omega)
    have o := StR_ok g (hok _ (List.mem_of_getElem? (getD_some (show i < l.length by omega) cmZ))).wf
    have := runL_n hn hok i (by omega)
    exact o.n.trans this
theorem pl_few {B : LedV} (h : LedG B) : (plL B).length ≤ 1000000 := by rw [plL_len]; exact slips_few h
theorem alone24_law (F : CF) {n : Int} {a : Option Addr} {cap : Nat} {l : List CmX} (hR : ∀ b v, Rd (F b v) a (cellsL cmC l)) (hok : greatB24 l = false → ∀ x ∈ l, CmRd F x) :
    CallOK Tryz.prog Alone24F [.val (.int .i64 n), .val (.slice a l.length cap)] [((0, 9), .fam F)] [] (.val (.bool true)) [] := by
  have c1 := great24_w F (cap := cap) hR
  have c2 := wakes24_w
  rcases Bool.eq_false_or_eq_true (greatB24 l) with g | g
  · rw [g] at c1
    exact callOK_run 400 [hC 1 1 c1, hC 2 0 c2] (by kernel_rfl) (by kernel_rfl)
  rw [g] at c1
  have hok := hok g
  obtain ⟨hl, -⟩ := greatB24_no g
  by_cases hn : ledE n = 0
  · have c3 := lnew_ok hn
    refine callOK_intro (by kernel_rfl) fun eb R => ?_
    refine go_loop (X := { i : Nat // i ≤ l.length }) 0 [] (fun x => (aloSl a l.length cap x.1, aloH F (runL n l x.1))) (fun x => l.length - x.1) ⟨0, Nat.zero_le _⟩ calNone false 400 [hC 1 1 c1, hC 3 1 c3] calNone_ok (by kernel_rfl) ?_
    rintro ⟨i, hi⟩ J hJ
    by_cases h : i < l.length
    · have z0 : decide ((i : Int) < (l.length : Int)) = true := decide_eq_true (by omega)
      have hin : l.getD i cmZ ∈ l := List.mem_of_getElem? (getD_some h cmZ)
      have ok := hok _ hin
      have hb := runL_g hn hok i hi
      have o := StR_ok hb ok.wf
      have hJ' := hJ ⟨i + 1, h⟩ (by show _ - (i + 1) < _ - i; omega)
      have hJ' : ∀ ε a' w, Rel (ntOf Tryz.prog Alone24F) 1 eb R ⟨aloSl a l.length cap (i + 1), aloH F (StR (runL n l i) (l.getD i cmZ).c).b, 2⟩ ε a' w → J a' w := hJ'
      clear hJ
      generalize runL n l i = B at *
      generalize hx : l.getD i cmZ = x at *
      refine leaf_cut (rgK Tryz.prog Alone24F 9 [J]) (aloSl a l.length cap i) (aloH F B) calNone false 400 [hB 7 3 _ _ z0, .stop 9] calNone_ok (by kernel_rfl) ?_
      refine alone_pre F hR h hx ok hb ?_
      refine alone_walk F hR h hl hx (plL_ups hb) (plL_ups o.g) (pl_few hb) (pl_few o.g) (pstep_sub hb o) (fun j k hj hk he hne => ?_) (fun k hk hno => ?_) hJ'
      · by_cases q : mayP x.c (pAt (plL B) j).key
        · exact q
        · exact absurd ((pstep_old hb o (pAt_mem hj) (pAt_mem hk) he).2 q) hne
      · refine (pstep_new hb o (pAt_mem hk) fun p hp => ?_).1
        obtain ⟨j, hj, rfl⟩ := mem_pAt hp
        exact hno j hj
    · have z0 : decide ((i : Int) < (l.length : Int)) = false := decide_eq_false (by omega)
      exact leaf_end calNone false 400 [hB 7 3 _ _ z0, hC 30 0 c2] calNone_ok (by kernel_rfl)
  · have c3 := lnew_no hn
    exact callOK_run 400 [hC 1 1 c1, hC 3 1 c3, hC 5 0 c2] (by kernel_rfl) (by kernel_rfl)
theorem alone24_any (n : Int) (a : Option Addr) (l : List CmX) (c : Nat) (w : World) (_ : (Lit.int .i64 n).wf = true) (hr : Row w a (cellsL cmC l)) (_ : a = none → c = 0) (_ : l.length ≤ maxLen) (ok : ∀ x ∈ l, CmIn w x) :
    Calls Tryz.prog Alone24F #[.int .i64 n, .slice a l.length c] w fun e w' => e = .returned (.bool true) ∧ Below w.heap.size w w' :=
  (alone24_law (fun _ _ => oldC w) (cap := c) (fun _ _ => rd_old hr)
    (fun hg y hy => cmRd_of (ok y hy) (by have := ((greatB24_no hg).2 y hy).1; omega) (by have := ((greatB24_no hg).2 y hy).2; omega)) (fun _ _ => (0, undef)) [] w (Mem.old w)).mono fun e w' ⟨x, h, hm⟩ => ⟨h, (show Mem (oldC w :: []) w' from hm).below 0 rfl⟩
end Go.Proofs.YtdnaegleifhmgaaGreat
end
section
namespace Go.Proofs.YtdnaegleifhmgaaGreat
open Go.RowKit Go.Lib Go.Tk Go.Shelf Go.Vc Go.Sx Go.Maps Go.Sort
def Once24F : Nat := 4
def CIsF : Nat := 13
def COverF : Nat := 14
theorem cis_w (s : Int) (h : 1 ≤ s ∧ s ≤ 7) : CallOK Tryz.prog CIsF [.val (.int .u8 s)] [] [] (.val (.bool true)) [] := by
  have e1 : decide (1 ≤ s) = true := decide_eq_true h.1
  have e2 : decide (s ≤ 7) = true := decide_eq_true h.2
  exact callOK_run 400 [hB 1 1 _ _ e1, hB 1 4 _ _ e2] (by kernel_rfl) (by kernel_rfl)
theorem cover_w (s : Int) (h : 1 ≤ s ∧ s ≤ 7) : CallOK Tryz.prog COverF [.val (.int .u8 s)] [] [] (.val (.bool (decide (4 ≤ s)))) [] := by
  have c1 := cis_w s h
  exact callOK_run 400 [hC 1 1 c1] (by kernel_rfl) (by kernel_rfl)
def onSl (n : Int) (a : Option Addr) (m cap i : Nat) : Slots := [(0, .val (.int .i64 n)), (1, .val (.slice a m cap)), (5, .ptr 1 0 0), (7, .val (.int .i64 (i : Int)))]
def onS2 (n : Int) (a : Option Addr) (m cap i : Nat) (e : Int) (k j : Nat) : Slots := onSl n a m cap i ++ [(8, .raw 1 2), (10, eN e), (11, .raw 1 3), (12, .val (.int .i64 (k : Int))), (13, .val (.int .i64 (j : Int)))]
def onH2 (F : CF) (C : LedV) (was now : List PlaceV) : Heap := aloH F C ++ [((1, 2), plR was), ((1, 3), plR now)]
section
variable {F : CF} {n : Int} {a : Option Addr} {m cap i : Nat} {e : Int} {k j : Nat} {C : LedV} {was now : List PlaceV} {eb : Env} {R : List Chunk} {J J2 : Act → World → Prop} {ret : SV} {rp : Heap}
theorem once_chk {p : PlaceV} (hn : n ≤ 8) (ok : PlaceOk n p) (hq : Go Tryz.prog Once24F ret rp eb R .nrm (rgK Tryz.prog Once24F 21 [J, J2]) (onS2 n a m cap i e k j ++ [(14, .ptr 1 4 0)]) (onH2 F C was now ++ [((1, 4), .box none (placeS p))])) :
    Go Tryz.prog Once24F ret rp eb R .nrm (rgK Tryz.prog Once24F 19 [J, J2]) (onS2 n a m cap i e k j ++ [(14, .ptr 1 4 0)]) (onH2 F C was now ++ [((1, 4), .box none (placeS p))]) := by
  obtain ⟨⟨⟨kc, kr⟩, ki⟩, way, car, st, non, paid⟩ := p
  obtain ⟨h1, h2, h3, h4, h5, h6⟩ := ok
  dsimp only at h1 h2 h3 h4 h5 h6
  have w1 : IntKind.i64.wrap car = car := wr_i64 (by omega)
  have e1 : decide (n ≤ car) = false := decide_eq_false (by omega)
  have c1 := cis_w st h2
  cases paid with
  | true =>
    have := h3 rfl
    subst this
    cases way with
    | true => have := h4 rfl; omega
    | false => exact leaf_cut (rgK Tryz.prog Once24F 21 [J, J2]) _ _ calNone false 400 [hI 19 2 IntKind.i64 _ _ w1, hB 19 4 _ _ e1, hC 19 26 c1, .stop 21] calNone_ok (by kernel_rfl) hq
  | false =>
    cases way with
    | true =>
      have := h4 rfl
      subst this
      exact leaf_cut (rgK Tryz.prog Once24F 21 [J, J2]) _ _ calNone false 400 [hI 19 2 IntKind.i64 _ _ w1, hB 19 4 _ _ e1, hC 19 26 c1, .stop 21] calNone_ok (by kernel_rfl) hq
    | false => exact leaf_cut (rgK Tryz.prog Once24F 21 [J, J2]) _ _ calNone false 400 [hI 19 2 IntKind.i64 _ _ w1, hB 19 4 _ _ e1, hC 19 26 c1, .stop 21] calNone_ok (by kernel_rfl) hq
theorem once_new {p : PlaceV} (hp : p = placeNew p.key) (hno : k < was.length → (pAt was k).key ≠ p.key) (hk : k ≤ was.length) (hj : j ≤ 1000000)
    (hJ2 : ∀ ε a' w, Rel (ntOf Tryz.prog Once24F) 1 eb R ⟨onS2 n a m cap i e k (j + 1), onH2 F C was now, 2⟩ ε a' w → J2 a' w) :
    Go Tryz.prog Once24F ret rp eb R .nrm (rgK Tryz.prog Once24F 21 [J, J2]) (onS2 n a m cap i e k j ++ [(14, .ptr 1 4 0)]) (onH2 F C was now ++ [((1, 4), .box none (placeS p))]) := by
  obtain ⟨key, way, car, st, non, paid⟩ := p
  simp only [placeNew, PlaceV.mk.injEq, true_and] at hp
  obtain ⟨rfl, rfl, rfl, rfl, rfl⟩ := hp
  have z9 : IntKind.i64.wrap ((j : Int) + 1) = ((j + 1 : Nat) : Int) := by rw [wr_i64 (by omega)]; omega
  have e9 : (!decide (key.t.c = key.t.c)) = false := by simp
  dsimp only at hno
  by_cases h : k < was.length
  · have e0 : decide ((was.length : Int) ≤ (k : Int)) = false := decide_eq_false (by omega)
    have x1 := pl_load h (t := 39) (u := .agg (kidS (pAt was k).key)) 0 (by kernel_rfl)
    have e1 : (!ckEq (pAt was k).key key) = true := by rw [ckEq_no (hno h)]; rfl
    unfold ckEq at e1
    exact leaf_round (lpK Tryz.prog Once24F 1 [J]) false 400 [hB 21 3 _ _ e0, .opt 21 7 (.at_ 0 _ _ _ ⟨rfl, h⟩), hG 21 9 x1, hB 21 12 _ _ e1, hB 22 23 _ _ e9, hI 17 1 IntKind.i64 _ _ z9] hJ2 (by kernel_rfl)
  · have e0 : decide ((was.length : Int) ≤ (k : Int)) = true := decide_eq_true (by omega)
    exact leaf_round (lpK Tryz.prog Once24F 1 [J]) false 400 [hB 21 3 _ _ e0, hB 22 23 _ _ e9, hI 17 1 IntKind.i64 _ _ z9] hJ2 (by kernel_rfl)
theorem once_go {p q : PlaceV} (nx : PlaceNext n q p) (hk : p.key = q.key) (hnon : p.nonce ≤ 4294967295 ∧ 0 ≤ q.nonce) (hj : j ≤ 1000000)
    (hJ2 : ∀ ε a' w, Rel (ntOf Tryz.prog Once24F) 1 eb R ⟨onS2 n a m cap i e k (j + 1), onH2 F C was now, 2⟩ ε a' w → J2 a' w) :
    Go Tryz.prog Once24F ret rp eb R .nrm (rgK Tryz.prog Once24F 28 [J, J2]) (onS2 n a m cap i e k j ++ [(14, .ptr 1 4 0), (15, .ptr 1 5 0)]) (onH2 F C was now ++ [((1, 4), .box none (placeS p)), ((1, 5), .box none (placeS q))]) := by
  have z9 : IntKind.i64.wrap ((j : Int) + 1) = ((j + 1 : Nat) : Int) := by rw [wr_i64 (by omega)]; omega
  by_cases e1 : p.car = q.car
  · have f1 : (!decide (p.car = q.car)) = false := by simp [e1]
    exact leaf_round (lpK Tryz.prog Once24F 1 [J]) false 400 [hB 28 4 _ _ f1, hB 28 27 _ _ f1, hI 17 1 IntKind.i64 _ _ z9] hJ2 (by kernel_rfl)
  · have f1 : (!decide (p.car = q.car)) = true := by simp [e1]
    obtain ⟨g1, g2, g3⟩ := nx.go e1
    have f2 : (!decide (q.st = 1)) = false := by simp [g2]
    have f3 : (!decide (p.st = 1)) = false := by simp [g3]
    by_cases e2 : p.car = p.key.t.c
    · have f4 : (!decide (p.car = p.key.t.c)) = false := by simp [e2]
      exact leaf_round (lpK Tryz.prog Once24F 1 [J]) false 400 [hB 28 4 _ _ f1, hB 28 12 _ _ f4, hB 28 27 _ _ f1, hB 28 31 _ _ f2, hB 28 35 _ _ f3, hI 17 1 IntKind.i64 _ _ z9] hJ2 (by kernel_rfl)
    · have f4 : (!decide (p.car = p.key.t.c)) = true := by simp [e2]
      have g4 : p.nonce = q.nonce + 1 := g1.resolve_left (fun x => e2 (by rw [hk]; exact x))
      have w1 : IntKind.u32.wrap (q.nonce + 1) = p.nonce := by rw [wr_u32 (by omega)]; exact g4.symm
      have f5 : (!decide (p.nonce = p.nonce)) = false := by simp
      exact leaf_round (lpK Tryz.prog Once24F 1 [J]) false 400 [hB 28 4 _ _ f1, hB 28 12 _ _ f4, hI 28 19 IntKind.u32 _ _ w1, hB 28 20 _ _ f5, hB 28 27 _ _ f1, hB 28 31 _ _ f2, hB 28 35 _ _ f3, hI 17 1 IntKind.i64 _ _ z9] hJ2 (by kernel_rfl)
theorem once_was {p q : PlaceV} (nx : PlaceNext n q p) (hst : 1 ≤ q.st ∧ q.st ≤ 7) (he : e ≠ 0 → p = q)
    (hq : Go Tryz.prog Once24F ret rp eb R .nrm (rgK Tryz.prog Once24F 28 [J, J2]) (onS2 n a m cap i e k j ++ [(14, .ptr 1 4 0), (15, .ptr 1 5 0)]) (onH2 F C was now ++ [((1, 4), .box none (placeS p)), ((1, 5), .box none (placeS q))])) :
    Go Tryz.prog Once24F ret rp eb R .nrm (rgK Tryz.prog Once24F 26 [J, J2]) (onS2 n a m cap i e k j ++ [(14, .ptr 1 4 0), (15, .ptr 1 5 0)]) (onH2 F C was now ++ [((1, 4), .box none (placeS p)), ((1, 5), .box none (placeS q))]) := by
  have f2 : decide (p.nonce < q.nonce) = false := decide_eq_false (by have := nx.non; omega)
  have c1 := cover_w q.st hst
  have k1 : e = 0 ∧ (!decide (e = 0)) = false ∨ (!decide (e = 0)) = true ∧ (!cpEq p q) = false := by
    by_cases h : e = 0
    · exact .inl ⟨h, by simp [h]⟩
    · exact .inr ⟨by simp [h], by rw [(cpEq_iff _ _).2 (he h)]; rfl⟩
  have k2 : q.paid = false ∨ q.paid = true ∧ p.paid = true := by
    cases h : q.paid with
    | false => exact .inl rfl
    | true => exact .inr ⟨rfl, nx.paid h⟩
  have k3 : decide (4 ≤ q.st) = false ∨ decide (4 ≤ q.st) = true ∧ (!decide (p.st = q.st)) = false := by
    by_cases h : 4 ≤ q.st
    · exact .inr ⟨decide_eq_true h, by simp [nx.over h]⟩
    · exact .inl (decide_eq_false h)
  have k4 : decide (p.st = 4) = false ∨ decide (p.st = 4) = true ∧ (!decide (q.st = 4)) = false ∨ decide (p.st = 4) = true ∧ (!decide (q.st = 4)) = true ∧ (!decide (q.st = 3)) = false := by
    by_cases h : p.st = 4
    · rcases nx.fly h with g | g
      · exact .inr (.inl ⟨decide_eq_true h, by simp [g]⟩)
      · exact .inr (.inr ⟨decide_eq_true h, by simp [g], by simp [g]⟩)
    · exact .inl (decide_eq_false h)
  unfold cpEq ckEq at k1
  rcases k3 with k3 | ⟨k3, f3⟩ <;> rw [k3] at c1
  · rcases k1 with ⟨-, k1⟩ | ⟨k1, f1⟩
    · rcases k2 with k2 | ⟨k2, f4⟩
      · rcases k4 with k4 | ⟨k4, f5⟩ | ⟨k4, f5, f6⟩
        · exact leaf_cut (rgK Tryz.prog Once24F 28 [J, J2]) _ _ calNone false 400 [hB 26 1 _ _ k1, hB 26 9 _ _ k2, hB 26 21 _ _ f2, hC 26 26 c1, hB 26 38 _ _ k4, .stop 28] calNone_ok (by kernel_rfl) hq
        · exact leaf_cut (rgK Tryz.prog Once24F 28 [J, J2]) _ _ calNone false 400 [hB 26 1 _ _ k1, hB 26 9 _ _ k2, hB 26 21 _ _ f2, hC 26 26 c1, hB 26 38 _ _ k4, hB 26 42 _ _ f5, .stop 28] calNone_ok (by kernel_rfl) hq
        · exact leaf_cut (rgK Tryz.prog Once24F 28 [J, J2]) _ _ calNone false 400 [hB 26 1 _ _ k1, hB 26 9 _ _ k2, hB 26 21 _ _ f2, hC 26 26 c1, hB 26 38 _ _ k4, hB 26 42 _ _ f5, hB 26 47 _ _ f6, .stop 28] calNone_ok (by kernel_rfl) hq
      · rcases k4 with k4 | ⟨k4, f5⟩ | ⟨k4, f5, f6⟩
        · exact leaf_cut (rgK Tryz.prog Once24F 28 [J, J2]) _ _ calNone false 400 [hB 26 1 _ _ k1, hB 26 9 _ _ k2, hB 26 12 _ _ f4, hB 26 21 _ _ f2, hC 26 26 c1, hB 26 38 _ _ k4, .stop 28] calNone_ok (by kernel_rfl) hq
        · exact leaf_cut (rgK Tryz.prog Once24F 28 [J, J2]) _ _ calNone false 400 [hB 26 1 _ _ k1, hB 26 9 _ _ k2, hB 26 12 _ _ f4, hB 26 21 _ _ f2, hC 26 26 c1, hB 26 38 _ _ k4, hB 26 42 _ _ f5, .stop 28] calNone_ok (by kernel_rfl) hq
        · exact leaf_cut (rgK Tryz.prog Once24F 28 [J, J2]) _ _ calNone false 400 [hB 26 1 _ _ k1, hB 26 9 _ _ k2, hB 26 12 _ _ f4, hB 26 21 _ _ f2, hC 26 26 c1, hB 26 38 _ _ k4, hB 26 42 _ _ f5, hB 26 47 _ _ f6, .stop 28] calNone_ok (by kernel_rfl) hq
    · rcases k2 with k2 | ⟨k2, f4⟩
      · rcases k4 with k4 | ⟨k4, f5⟩ | ⟨k4, f5, f6⟩
        · exact leaf_cut (rgK Tryz.prog Once24F 28 [J, J2]) _ _ calNone false 400 [hB 26 1 _ _ k1, hB 26 5 _ _ f1, hB 26 9 _ _ k2, hB 26 21 _ _ f2, hC 26 26 c1, hB 26 38 _ _ k4, .stop 28] calNone_ok (by kernel_rfl) hq
        · exact leaf_cut (rgK Tryz.prog Once24F 28 [J, J2]) _ _ calNone false 400 [hB 26 1 _ _ k1, hB 26 5 _ _ f1, hB 26 9 _ _ k2, hB 26 21 _ _ f2, hC 26 26 c1, hB 26 38 _ _ k4, hB 26 42 _ _ f5, .stop 28] calNone_ok (by kernel_rfl) hq
        · exact leaf_cut (rgK Tryz.prog Once24F 28 [J, J2]) _ _ calNone false 400 [hB 26 1 _ _ k1, hB 26 5 _ _ f1, hB 26 9 _ _ k2, hB 26 21 _ _ f2, hC 26 26 c1, hB 26 38 _ _ k4, hB 26 42 _ _ f5, hB 26 47 _ _ f6, .stop 28] calNone_ok (by kernel_rfl) hq
      · rcases k4 with k4 | ⟨k4, f5⟩ | ⟨k4, f5, f6⟩
        · exact leaf_cut (rgK Tryz.prog Once24F 28 [J, J2]) _ _ calNone false 400 [hB 26 1 _ _ k1, hB 26 5 _ _ f1, hB 26 9 _ _ k2, hB 26 12 _ _ f4, hB 26 21 _ _ f2, hC 26 26 c1, hB 26 38 _ _ k4, .stop 28] calNone_ok (by kernel_rfl) hq
        · exact leaf_cut (rgK Tryz.prog Once24F 28 [J, J2]) _ _ calNone false 400 [hB 26 1 _ _ k1, hB 26 5 _ _ f1, hB 26 9 _ _ k2, hB 26 12 _ _ f4, hB 26 21 _ _ f2, hC 26 26 c1, hB 26 38 _ _ k4, hB 26 42 _ _ f5, .stop 28] calNone_ok (by kernel_rfl) hq
        · exact leaf_cut (rgK Tryz.prog Once24F 28 [J, J2]) _ _ calNone false 400 [hB 26 1 _ _ k1, hB 26 5 _ _ f1, hB 26 9 _ _ k2, hB 26 12 _ _ f4, hB 26 21 _ _ f2, hC 26 26 c1, hB 26 38 _ _ k4, hB 26 42 _ _ f5, hB 26 47 _ _ f6, .stop 28] calNone_ok (by kernel_rfl) hq
  · rcases k1 with ⟨-, k1⟩ | ⟨k1, f1⟩
    · rcases k2 with k2 | ⟨k2, f4⟩
      · rcases k4 with k4 | ⟨k4, f5⟩ | ⟨k4, f5, f6⟩
        · exact leaf_cut (rgK Tryz.prog Once24F 28 [J, J2]) _ _ calNone false 400 [hB 26 1 _ _ k1, hB 26 9 _ _ k2, hB 26 21 _ _ f2, hC 26 26 c1, hB 26 32 _ _ f3, hB 26 38 _ _ k4, .stop 28] calNone_ok (by kernel_rfl) hq
        · exact leaf_cut (rgK Tryz.prog Once24F 28 [J, J2]) _ _ calNone false 400 [hB 26 1 _ _ k1, hB 26 9 _ _ k2, hB 26 21 _ _ f2, hC 26 26 c1, hB 26 32 _ _ f3, hB 26 38 _ _ k4, hB 26 42 _ _ f5, .stop 28] calNone_ok (by kernel_rfl) hq
        · exact leaf_cut (rgK Tryz.prog Once24F 28 [J, J2]) _ _ calNone false 400 [hB 26 1 _ _ k1, hB 26 9 _ _ k2, hB 26 21 _ _ f2, hC 26 26 c1, hB 26 32 _ _ f3, hB 26 38 _ _ k4, hB 26 42 _ _ f5, hB 26 47 _ _ f6, .stop 28] calNone_ok (by kernel_rfl) hq
      · rcases k4 with k4 | ⟨k4, f5⟩ | ⟨k4, f5, f6⟩
        · exact leaf_cut (rgK Tryz.prog Once24F 28 [J, J2]) _ _ calNone false 400 [hB 26 1 _ _ k1, hB 26 9 _ _ k2, hB 26 12 _ _ f4, hB 26 21 _ _ f2, hC 26 26 c1, hB 26 32 _ _ f3, hB 26 38 _ _ k4, .stop 28] calNone_ok (by kernel_rfl) hq
        · exact leaf_cut (rgK Tryz.prog Once24F 28 [J, J2]) _ _ calNone false 400 [hB 26 1 _ _ k1, hB 26 9 _ _ k2, hB 26 12 _ _ f4, hB 26 21 _ _ f2, hC 26 26 c1, hB 26 32 _ _ f3, hB 26 38 _ _ k4, hB 26 42 _ _ f5, .stop 28] calNone_ok (by kernel_rfl) hq
        · exact leaf_cut (rgK Tryz.prog Once24F 28 [J, J2]) _ _ calNone false 400 [hB 26 1 _ _ k1, hB 26 9 _ _ k2, hB 26 12 _ _ f4, hB 26 21 _ _ f2, hC 26 26 c1, hB 26 32 _ _ f3, hB 26 38 _ _ k4, hB 26 42 _ _ f5, hB 26 47 _ _ f6, .stop 28] calNone_ok (by kernel_rfl) hq
    · rcases k2 with k2 | ⟨k2, f4⟩
      · rcases k4 with k4 | ⟨k4, f5⟩ | ⟨k4, f5, f6⟩
        · exact leaf_cut (rgK Tryz.prog Once24F 28 [J, J2]) _ _ calNone false 400 [hB 26 1 _ _ k1, hB 26 5 _ _ f1, hB 26 9 _ _ k2, hB 26 21 _ _ f2, hC 26 26 c1, hB 26 32 _ _ f3, hB 26 38 _ _ k4, .stop 28] calNone_ok (by kernel_rfl) hq
        · exact leaf_cut (rgK Tryz.prog Once24F 28 [J, J2]) _ _ calNone false 400 [hB 26 1 _ _ k1, hB 26 5 _ _ f1, hB 26 9 _ _ k2, hB 26 21 _ _ f2, hC 26 26 c1, hB 26 32 _ _ f3, hB 26 38 _ _ k4, hB 26 42 _ _ f5, .stop 28] calNone_ok (by kernel_rfl) hq
        · exact leaf_cut (rgK Tryz.prog Once24F 28 [J, J2]) _ _ calNone false 400 [hB 26 1 _ _ k1, hB 26 5 _ _ f1, hB 26 9 _ _ k2, hB 26 21 _ _ f2, hC 26 26 c1, hB 26 32 _ _ f3, hB 26 38 _ _ k4, hB 26 42 _ _ f5, hB 26 47 _ _ f6, .stop 28] calNone_ok (by kernel_rfl) hq
      · rcases k4 with k4 | ⟨k4, f5⟩ | ⟨k4, f5, f6⟩
        · exact leaf_cut (rgK Tryz.prog Once24F 28 [J, J2]) _ _ calNone false 400 [hB 26 1 _ _ k1, hB 26 5 _ _ f1, hB 26 9 _ _ k2, hB 26 12 _ _ f4, hB 26 21 _ _ f2, hC 26 26 c1, hB 26 32 _ _ f3, hB 26 38 _ _ k4, .stop 28] calNone_ok (by kernel_rfl) hq
        · exact leaf_cut (rgK Tryz.prog Once24F 28 [J, J2]) _ _ calNone false 400 [hB 26 1 _ _ k1, hB 26 5 _ _ f1, hB 26 9 _ _ k2, hB 26 12 _ _ f4, hB 26 21 _ _ f2, hC 26 26 c1, hB 26 32 _ _ f3, hB 26 38 _ _ k4, hB 26 42 _ _ f5, .stop 28] calNone_ok (by kernel_rfl) hq
        · exact leaf_cut (rgK Tryz.prog Once24F 28 [J, J2]) _ _ calNone false 400 [hB 26 1 _ _ k1, hB 26 5 _ _ f1, hB 26 9 _ _ k2, hB 26 12 _ _ f4, hB 26 21 _ _ f2, hC 26 26 c1, hB 26 32 _ _ f3, hB 26 38 _ _ k4, hB 26 42 _ _ f5, hB 26 47 _ _ f6, .stop 28] calNone_ok (by kernel_rfl) hq
end
end Go.Proofs.YtdnaegleifhmgaaGreat
end
section
namespace Go.Proofs.YtdnaegleifhmgaaGreat
open Go.RowKit Go.Lib Go.Tk Go.Shelf Go.Vc Go.Sx Go.Maps Go.Sort
theorem Wk.done {a b : List PlaceV} {i j : Nat} (h : Wk a b i j) (hj : ¬ j < b.length) : i = a.length := by
  by_cases q : i < a.length
  · exact absurd (h.fin q) hj
  · have := h.hi; omega
theorem once_walk (F : CF) {n : Int} (hn : n ≤ 8) {a : Option Addr} {cap i : Nat} {l : List CmX} (hl : l.length ≤ 150) (hi : i < l.length) {e : Int} {was now : List PlaceV} (sa : Ups was) (sb : Ups now) (ha : was.length ≤ 1000000) (hb : now.length ≤ 1000000)
    (sub : ∀ p ∈ was, ∃ p' ∈ now, p'.key = p.key)
    (okn : ∀ k, k < now.length → PlaceOk n (pAt now k)) (oko : ∀ k, k < was.length → PlaceOk n (pAt was k))
    (old : ∀ j k, j < was.length → k < now.length → (pAt now k).key = (pAt was j).key → PlaceNext n (pAt was j) (pAt now k) ∧ (e ≠ 0 → pAt now k = pAt was j))
    (new : ∀ k, k < now.length → (∀ j, j < was.length → (pAt was j).key ≠ (pAt now k).key) → pAt now k = placeNew (pAt now k).key)
    {C : LedV} {eb : Env} {R : List Chunk} {J : Act → World → Prop}
    (hJ : ∀ ε a' w, Rel (ntOf Tryz.prog Once24F) 1 eb R ⟨onSl n a l.length cap (i + 1), aloH F C, 2⟩ ε a' w → J a' w) :
    Go Tryz.prog Once24F (.val (.bool true)) ([((0, 9), .fam F)] ++ []) eb R .nrm (rgK Tryz.prog Once24F 14 [J]) (onSl n a l.length cap i ++ [(8, .raw 1 2), (10, eN e), (11, .raw 1 3)]) (onH2 F C was now) := by
  have z8 : IntKind.i64.wrap ((i : Int) + 1) = ((i + 1 : Nat) : Int) := by rw [wr_i64 (by omega)]; omega
  refine go_loop (X := { y : Nat × Nat // Wk was now y.1 y.2 }) 1 [J] (fun y => (onS2 n a l.length cap i e y.1.1 y.1.2, onH2 F C was now)) (fun y => now.length - y.1.2) ⟨(0, 0), Wk.start sub⟩ calNone false 400 [] calNone_ok (by kernel_rfl) ?_
  rintro ⟨⟨k, j⟩, hw⟩ J2 hJ2
  have hj1 : j ≤ now.length := hw.hj
  have hk1 : k ≤ was.length := hw.hi
  by_cases hj : j < now.length
  · have y0 : decide ((j : Int) < (now.length : Int)) = true := decide_eq_true (by omega)
    have x1 := pl_load hj (t := 61) (u := .agg (placeS (pAt now j))) 0 (by kernel_rfl)
    have okj := okn j hj
    refine leaf_cut (rgK Tryz.prog Once24F 19 [J, J2]) (onS2 n a l.length cap i e k j ++ [(14, .ptr 1 4 0)]) (onH2 F C was now ++ [((1, 4), .box none (placeS (pAt now j)))]) calNone false 400 [hB 16 3 _ _ y0, .opt 18 2 (.at_ 0 _ _ _ ⟨rfl, hj⟩), hG 18 3 x1, .stop 19] calNone_ok (by kernel_rfl) ?_
    refine once_chk hn okj ?_
    by_cases hne : k < was.length → (pAt now j).key ≠ (pAt was k).key
    · exact once_new (new j hj fun y hy => hw.other sa sb hj hne hy) (fun h e => hne h e.symm) hk1 (by omega) (hJ2 ⟨(k, j + 1), hw.skip sa sb hj hne⟩ (by show _ - (j + 1) < _ - j; omega))
    · obtain ⟨hk, he⟩ : k < was.length ∧ (pAt now j).key = (pAt was k).key := by
        by_cases h : k < was.length
        · by_cases q : (pAt now j).key = (pAt was k).key
          · exact ⟨h, q⟩
          · exact absurd (fun _ => q) hne
        · exact absurd (fun x => absurd x h) hne
      have okk := oko k hk
      obtain ⟨nx, hs⟩ := old k j hk hj he
      have hJ2' := hJ2 ⟨(k + 1, j + 1), hw.both sa sb hk hj he⟩ (by show _ - (j + 1) < _ - j; omega)
      have e0 : decide ((was.length : Int) ≤ (k : Int)) = false := decide_eq_false (by omega)
      have x2 := pl_load hk (t := 39) (u := .agg (kidS (pAt was k).key)) 0 (by kernel_rfl)
      have x3 := pl_load hk (t := 61) (u := .agg (placeS (pAt was k))) 0 (by kernel_rfl)
      have e1 : (!ckEq (pAt was k).key (pAt now j).key) = false := by rw [(ckEq_iff _ _).2 he.symm]; rfl
      unfold ckEq at e1
      have z9 : IntKind.i64.wrap ((k : Int) + 1) = ((k + 1 : Nat) : Int) := by rw [wr_i64 (by omega)]; omega
      refine leaf_cut (rgK Tryz.prog Once24F 26 [J, J2]) (onS2 n a l.length cap i e (k + 1) j ++ [(14, .ptr 1 4 0), (15, .ptr 1 5 0)]) (onH2 F C was now ++ [((1, 4), .box none (placeS (pAt now j))), ((1, 5), .box none (placeS (pAt was k)))]) calNone false 400 [hB 21 3 _ _ e0, .opt 21 7 (.at_ 0 _ _ _ ⟨rfl, hk⟩), hG 21 9 x2, hB 21 12 _ _ e1, .opt 24 2 (.at_ 0 _ _ _ ⟨rfl, hk⟩), hG 24 3 x3, hI 25 1 IntKind.i64 _ _ z9, .stop 26] calNone_ok (by kernel_rfl) ?_
      exact once_was nx okk.st hs (once_go nx he ⟨okj.non.2, okk.non.1⟩ (by omega) hJ2')
  · have hje : j = now.length := by omega
    subst hje
    have hke := hw.done hj
    subst hke
    have y0 : decide ((now.length : Int) < (now.length : Int)) = false := decide_eq_false (by omega)
    have y1 : (!decide ((was.length : Int) = (was.length : Int))) = false := by simp
    clear hJ2
    exact leaf_round (lpK Tryz.prog Once24F 0 []) false 400 [hB 16 3 _ _ y0, hB 30 3 _ _ y1, hI 8 1 IntKind.i64 _ _ z8] hJ (by kernel_rfl)
theorem once_pre (F : CF) {n : Int} {a : Option Addr} {cap i : Nat} {l : List CmX} (hR : ∀ b v, Rd (F b v) a (cellsL cmC l)) (hi : i < l.length) {x : CmX} (hx : l.getD i cmZ = x) (ok : CmRd F x) {B : LedV} (hb : LedG B) {eb : Env} {R : List Chunk} {J : Act → World → Prop} {ret : SV} {rp : Heap}
    (hq : Go Tryz.prog Once24F ret rp eb R .nrm (rgK Tryz.prog Once24F 14 [J]) (onSl n a l.length cap i ++ [(8, .raw 1 2), (10, eN (StR B x.c).e), (11, .raw 1 3)]) (onH2 F (StR B x.c).b (plL B) (plL (StR B x.c).b))) :
    Go Tryz.prog Once24F ret rp eb R .nrm (rgK Tryz.prog Once24F 9 [J]) (onSl n a l.length cap i) (aloH F B) := by
  have q1 := idx_openG (P := Tryz.prog) (t := CmT) (e := 52) (size := 26) (j := 9) (k := .i64) (cap := cap) (n := l.length) Tryz.underlying22 (by kernel_rfl) (cm_len l) hR hi
  have hpos : 0 < (cellsL cmC l).length := by rw [cm_len]; omega
  have q2 := load_openG2 (P := Tryz.prog) (t := 5) (k := i * 26) (j := 9) (u := .val (.int .u8 (l.getD i cmZ).c.kind)) 1 0 (by kernel_rfl) hR (cm_nth hi) hpos
  have q3 := load_openG0 (P := Tryz.prog) (t := 52) (k := i * 26) (j := 9) (u := .agg (cmX (l.getD i cmZ))) (by kernel_rfl) hR (cm_nth hi) hpos
  rw [hx] at q2 q3
  have s1 := step_x hb ok
  have hb' := hb.step ok.wf
  have o := StR_ok hb ok.wf
  have p1 := placesC hb (slips_few hb)
  have p2 := placesC hb' (slips_few hb')
  have y1 : decide (((plL (StR B x.c).b).length : Int) < ((plL B).length : Int)) = false := decide_eq_false (by have := pstep_len hb o; omega)
  have y2 : (StR B x.c).e ≠ 0 ∨ x.c.kind ≠ 1 → (!decide (((plL (StR B x.c).b).length : Int) = ((plL B).length : Int))) = false := fun h => by
    have := pstep_same hb o (h.imp id fun g k q => g q.1)
    simp [this]
  generalize StR B x.c = q at *
  clear hb hb' ok o
  generalize plL B = was at *
  generalize plL q.b = now at *
  by_cases k1 : x.c.kind = 1
  · have g1 : (!decide (x.c.kind = 1)) = false := by simp [k1]
    by_cases k2 : q.e = 0
    · have g2 : (!decide (q.e = 0)) = false := by simp [k2]
      exact leaf_cut (rgK Tryz.prog Once24F 14 [J]) _ _ calNone false 400 [hC 9 1 p1, hG 10 3 q1, hG 10 4 q3, hC 10 5 s1, hC 11 1 p2, hB 12 1 _ _ g2, hB 12 14 _ _ y1, hG 12 19 q1, hG 12 22 q2, hB 12 23 _ _ g1, .stop 14] calNone_ok (by kernel_rfl) hq
    · have g2 : (!decide (q.e = 0)) = true := by simp [k2]
      have y3 := y2 (.inl k2)
      exact leaf_cut (rgK Tryz.prog Once24F 14 [J]) _ _ calNone false 400 [hC 9 1 p1, hG 10 3 q1, hG 10 4 q3, hC 10 5 s1, hC 11 1 p2, hB 12 1 _ _ g2, hB 12 7 _ _ y3, hB 12 14 _ _ y1, hG 12 19 q1, hG 12 22 q2, hB 12 23 _ _ g1, .stop 14] calNone_ok (by kernel_rfl) hq
  · have g1 : (!decide (x.c.kind = 1)) = true := by simp [k1]
    have y3 := y2 (.inr k1)
    by_cases k2 : q.e = 0
    · have g2 : (!decide (q.e = 0)) = false := by simp [k2]
      exact leaf_cut (rgK Tryz.prog Once24F 14 [J]) _ _ calNone false 400 [hC 9 1 p1, hG 10 3 q1, hG 10 4 q3, hC 10 5 s1, hC 11 1 p2, hB 12 1 _ _ g2, hB 12 14 _ _ y1, hG 12 19 q1, hG 12 22 q2, hB 12 23 _ _ g1, hB 12 29 _ _ y3, .stop 14] calNone_ok (by kernel_rfl) hq
    · have g2 : (!decide (q.e = 0)) = true := by simp [k2]
      exact leaf_cut (rgK Tryz.prog Once24F 14 [J]) _ _ calNone false 400 [hC 9 1 p1, hG 10 3 q1, hG 10 4 q3, hC 10 5 s1, hC 11 1 p2, hB 12 1 _ _ g2, hB 12 7 _ _ y3, hB 12 14 _ _ y1, hG 12 19 q1, hG 12 22 q2, hB 12 23 _ _ g1, hB 12 29 _ _ y3, .stop 14] calNone_ok (by kernel_rfl) hq
theorem once24_law (F : CF) {n : Int} {a : Option Addr} {cap : Nat} {l : List CmX} (hR : ∀ b v, Rd (F b v) a (cellsL cmC l)) (hok : greatB24 l = false → ∀ x ∈ l, CmRd F x) :
    CallOK Tryz.prog Once24F [.val (.int .i64 n), .val (.slice a l.length cap)] [((0, 9), .fam F)] [] (.val (.bool true)) [] := by
  have c1 := great24_w F (cap := cap) hR
  have c2 := wakes24_w
  rcases Bool.eq_false_or_eq_true (greatB24 l) with g | g
  · rw [g] at c1
    exact callOK_run 400 [hC 1 1 c1, hC 2 0 c2] (by kernel_rfl) (by kernel_rfl)
  rw [g] at c1
  have hok := hok g
  obtain ⟨hl, -⟩ := greatB24_no g
  by_cases hn : ledE n = 0
  · have c3 := lnew_ok hn
    refine callOK_intro (by kernel_rfl) fun eb R => ?_
    refine go_loop (X := { i : Nat // i ≤ l.length }) 0 [] (fun x => (onSl n a l.length cap x.1, aloH F (runL n l x.1))) (fun x => l.length - x.1) ⟨0, Nat.zero_le _⟩ calNone false 400 [hC 1 1 c1, hC 3 1 c3] calNone_ok (by kernel_rfl) ?_
    rintro ⟨i, hi⟩ J hJ
    by_cases h : i < l.length
    · have z0 : decide ((i : Int) < (l.length : Int)) = true := decide_eq_true (by omega)
      have hin : l.getD i cmZ ∈ l := List.mem_of_getElem? (getD_some h cmZ)
      have ok := hok _ hin
      have hb := runL_g hn hok i hi
      have hnn := runL_n hn hok i hi
      have o := StR_ok hb ok.wf
      have hJ' := hJ ⟨i + 1, h⟩ (by show _ - (i + 1) < _ - i; omega)
      have hJ' : ∀ ε a' w, Rel (ntOf Tryz.prog Once24F) 1 eb R ⟨onSl n a l.length cap (i + 1), aloH F (StR (runL n l i) (l.getD i cmZ).c).b, 2⟩ ε a' w → J a' w := hJ'
      clear hJ
      generalize runL n l i = B at *
      generalize hx : l.getD i cmZ = x at *
      refine leaf_cut (rgK Tryz.prog Once24F 9 [J]) (onSl n a l.length cap i) (aloH F B) calNone false 400 [hB 7 3 _ _ z0, .stop 9] calNone_ok (by kernel_rfl) ?_
      refine once_pre F hR h hx ok hb ?_
      have n8 : n ≤ 8 := by rw [← hnn]; exact hb.ok.n.2
      have on : (StR B x.c).b.n = n := o.n.trans hnn
      refine once_walk F n8 hl h (plL_ups hb) (plL_ups o.g) (pl_few hb) (pl_few o.g) (pstep_sub hb o) (fun k hk => ?_) (fun k hk => ?_) (fun j k hj hk he => ?_) (fun k hk hno => ?_) hJ'
      · have := plL_ok o.g (pAt_mem hk); rwa [on] at this
      · have := plL_ok hb (pAt_mem hk); rwa [hnn] at this
      · have := (pstep_old hb o (pAt_mem hj) (pAt_mem hk) he).1
        rw [hnn] at this
        refine ⟨this, fun q => ?_⟩
        have e1 := pstep_bad o q
        obtain ⟨s, e2, e3⟩ := (plL_mem hb).1 (pAt_mem hj)
        have h3 := pAt_mem hk
        rw [e1] at h3
        obtain ⟨s', e4, e5⟩ := (plL_mem hb).1 h3
        rw [e1] at he ⊢
        rw [he, e2] at e4
        cases e4
        rw [← e5, e3]
      · refine (pstep_new hb o (pAt_mem hk) fun p hp => ?_).2
        obtain ⟨j, hj, rfl⟩ := mem_pAt hp
        exact hno j hj
    · have z0 : decide ((i : Int) < (l.length : Int)) = false := decide_eq_false (by omega)
      exact leaf_end calNone false 400 [hB 7 3 _ _ z0, hC 32 0 c2] calNone_ok (by kernel_rfl)
  · have c3 := lnew_no hn
    exact callOK_run 400 [hC 1 1 c1, hC 3 1 c3, hC 5 0 c2] (by kernel_rfl) (by kernel_rfl)
theorem once24_any (n : Int) (a : Option Addr) (l : List CmX) (c : Nat) (w : World) (_ : (Lit.int .i64 n).wf = true) (hr : Row w a (cellsL cmC l)) (_ : a = none → c = 0) (_ : l.length ≤ maxLen) (ok : ∀ x ∈ l, CmIn w x) :
    Calls Tryz.prog Once24F #[.int .i64 n, .slice a l.length c] w fun e w' => e = .returned (.bool true) ∧ Below w.heap.size w w' :=
  (once24_law (fun _ _ => oldC w) (cap := c) (fun _ _ => rd_old hr)
    (fun hg y hy => cmRd_of (ok y hy) (by have := ((greatB24_no hg).2 y hy).1; omega) (by have := ((greatB24_no hg).2 y hy).2; omega)) (fun _ _ => (0, undef)) [] w (Mem.old w)).mono fun e w' ⟨x, h, hm⟩ => ⟨h, (show Mem (oldC w :: []) w' from hm).below 0 rfl⟩
end Go.Proofs.YtdnaegleifhmgaaGreat
end
section
namespace Go.Proofs.YtdnaegleifhmgaaGreat.centralOnceF
open Go
theorem closed : joinedFacts Tryz.pinned.checked.prog 4 Tryz.f4 Rows.centralOnceSpec Rows.centralOnceRow = true := by kernel_rfl
theorem inst : Tryz.f4.isInstance Tryz.pinned.checked.prog Rows.centralOnceRow.origin Rows.centralOnceRow.targs := of_decide_eq_true (by kernel_rfl)
theorem wrap : Tryz.f4.isWrapper Tryz.pinned.checked.prog Rows.centralOnceRow.wrapper Rows.centralOnceRow.mainSum := by
  unfold Func.isWrapper
  first | (rw [if_pos (by decide +kernel)]; kernel_rfl) | (rw [if_neg (by decide +kernel)]; exact ⟨rfl, rfl⟩)
end Go.Proofs.YtdnaegleifhmgaaGreat.centralOnceF
end
