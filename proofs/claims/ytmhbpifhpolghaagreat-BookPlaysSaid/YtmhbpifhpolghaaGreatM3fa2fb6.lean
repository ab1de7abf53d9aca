/- Pro1, Tick10, Pro2, Tick11, Tick12, Bk2. -/
import Derived.Test.YtmhbpifhpolghaaGreatShare2
import Derived.Deep.MidRow
import Derived.Deep.RegionHeld3
import Derived.Deep.DrawnRows
import Derived.Deep.RegionWith
import Derived.Deep.DeepCutAuto
set_option maxRecDepth 100000
set_option linter.unusedVariables false
set_option linter.unusedSimpArgs false
set_option linter.unusedSectionVars false
section
namespace Go.Proofs.YtmhbpifhpolghaaGreat
open Go.RowKit Go.Lib Go.Tk Go.Sort Go.Shelf
theorem drewN_below (w : World) (n : Nat) : Below w.heap.size w (w.drewN n) := ⟨rfl, rfl, rfl, Nat.le_refl _, fun _ _ => rfl⟩
end Go.Proofs.YtmhbpifhpolghaaGreat
end
section
namespace Go.Proofs.YtmhbpifhpolghaaGreat
open Go.RowKit Go.Lib Go.Tk
attribute [-go_sem] storeCells
def ticketB (c r n : Int) : Bool := decide (c < n) && decide (1 ≤ r) && decide (r ≤ 9999999999)
def makeE (c r : Int) (s : SaleV) (n : Int) : Int := if checkE s n = 1 ∨ ticketB c r n = false then 1 else checkE s n
def zeroCells : List Value := [.int .u8 0, .int .u64 0, .string ⟨#[]⟩, .slice none 0 0, .int .i64 0, .slice none 0 0, .int .i64 0, .slice none 0 0, .int .u8 0, .int .u64 0, .int .u8 0, .int .u64 0, .int .i64 0, .int .i64 0, .int .i64 0, .int .i64 0, .int .i64 0]
section
attribute [-go_sem] loadVar
end
end Go.Proofs.YtmhbpifhpolghaaGreat
end
section
namespace Go.Proofs.YtmhbpifhpolghaaGreat
open Go.RowKit Go.Lib Go.Tk Go.Sort Go.Shelf
theorem shareV_len {t : Int} {ws : List Int} (h : shareE t ws = 0) : (shareV t ws).length = ws.length := by unfold shareV; rw [if_pos h, shareL_len]
end Go.Proofs.YtmhbpifhpolghaaGreat
end
section
namespace Go.Proofs.YtmhbpifhpolghaaGreat
open Go.RowKit Go.Lib Go.Tk
attribute [-go_sem] storeCells
attribute [local go_sem ↓] Go.wp_at_zero Go.wp_at_succ
def wsOf (s : SaleV) : List Int := s.legs.map (·.x)
structure Mid (c r : Int) (s : SaleV) (A : SaleA) (w wx : World) : Prop where
  bt : Box wx w.heap.size #[.int .u8 c, .int .u64 r]
  bs : Box wx (w.heap.size + 1) #[.string s.name, .slice A.la s.legs.length A.lc, .int .i64 s.fare, .slice A.ta s.taxes.length A.tc, .int .i64 s.pen]
  bd : Box wx (w.heap.size + 1 + 1) zeroCells.toArray
  sa : SaleAt wx s A
  lx : ∀ x, A.la = some x → w.heap.size + 3 ≤ x.block
  tx : ∀ x, A.ta = some x → w.heap.size + 3 ≤ x.block
  b : Below w.heap.size w wx
  z : w.heap.size + 3 ≤ wx.heap.size
theorem Mid.kept {c r : Int} {s : SaleV} {A : SaleA} {w wx w' : World} (h : Mid c r s A w wx) (hb : Below wx.heap.size wx w') : Mid c r s A w w' :=
  ⟨h.bt.kept hb, h.bs.kept hb, h.bd.kept hb, h.sa.kept hb, h.lx, h.tx, Go.Tk.bt h.b hb, Nat.le_trans h.z hb.size⟩
theorem ws_len (s : SaleV) : (wsOf s).length = s.legs.length := by simp [wsOf]
end Go.Proofs.YtmhbpifhpolghaaGreat
end
section
namespace Go.Proofs.YtmhbpifhpolghaaGreat
open Go.RowKit Go.Lib Go.Tk Go.Sort Go.Shelf
theorem ws_pos {s : SaleV} (ok : SaleOk s) : PosRow (wsOf s) := fun x hx => by
  obtain ⟨l, hl, rfl⟩ := List.mem_map.1 hx
  exact (ok.legs l hl).2.2
theorem check_shape {s : SaleV} {n : Int} (h : checkE s n = 0) : 2 ≤ n ∧ n ≤ 8 ∧ shapeB s n = true ∧ (sumFrom 0 (priceL s)).2 = 0 := by
  unfold checkE at h
  by_cases h1 : n < 2 ∨ 8 < n
  · rw [if_pos h1] at h; cases h
  · rw [if_neg h1] at h
    by_cases h2 : shapeB s n = true
    · rw [if_pos h2] at h
      exact ⟨by omega, by omega, h2, h⟩
    · rw [if_neg h2] at h; cases h
theorem shape_share {s : SaleV} {n : Int} (ok : SaleOk s) (h : shapeB s n = true) : shareE s.fare (wsOf s) = 0 ∧ 0 < (wsOf s).sum ∧ 1 ≤ s.legs.length ∧ s.legs.length ≤ 4 ∧ 0 ≤ s.fare ∧ s.fare ≤ 1125899906842624 := by
  simp only [shapeB, Bool.and_eq_true] at h
  obtain ⟨⟨⟨⟨-, h2⟩, h3⟩, h4⟩, -⟩ := h
  simp only [must2, Bool.and_eq_true, decide_eq_true_eq] at h2
  simp only [must3, List.all_cons, List.all_nil, Bool.and_true, Bool.and_eq_true, amtB, decide_eq_true_eq] at h3
  have hp := ws_pos ok
  have hsum : 0 < (wsOf s).sum := by
    rcases hl : s.legs with _ | ⟨x, r⟩
    · rw [hl] at h2; simp at h2
    · have hx : x ∈ s.legs := by rw [hl]; simp
      have hb : legBad n x = false := by
        simp only [must4, Bool.not_eq_true'] at h4
        cases hq : legBad n x with
        | false => rfl
        | true => rw [List.any_eq_true.2 ⟨x, hx, hq⟩] at h4; cases h4
      have h0 : x.x ≠ 0 := fun e => by simp [legBad, e] at hb
      have hx2 := (ok.legs x hx).2.2.1
      have := le_sum (wsOf s) (fun y hy => (hp y hy).1) x.x (List.mem_map.2 ⟨x, hx, rfl⟩)
      omega
  refine ⟨?_, hsum, h2.1.1, h2.1.2, h3.1.1, h3.1.2⟩
  unfold shareE
  rw [if_neg (by rw [ws_len]; omega), if_neg (by omega), if_pos ⟨h3.1.1, h3.1.2⟩]
end Go.Proofs.YtmhbpifhpolghaaGreat
end
section
namespace Go.Proofs.YtmhbpifhpolghaaGreat
open Go.RowKit Go.Lib Go.Tk Go.Shelf Go.Vc Go.Sx
def taxS' (t : Tax) : List SV := [.val (.string t.code), .val (.int .i64 t.amt)]
def legR (n : Nat) (l : List Leg) : SC := .row 48 3 n (.shal (cellsL encLeg l)) []
def taxR (n : Nat) (l : List Tax) : SC := .row 172 2 n (.shal (cellsL encTax l)) []
def i64R (n : Nat) (l : List Int) : SC := .row 2 1 n (.shal (l.map (.int .i64))) []
theorem legs_one (l : List Leg) : ∀ u ∈ cellsL encLeg l, u.oneCell' = true := fun u hu => by
  obtain ⟨v, hv, hu⟩ := List.mem_flatten.1 hu
  obtain ⟨x, hx, rfl⟩ := List.mem_map.1 hv
  exact encLeg_one x u hu
theorem taxes_one (l : List Tax) : ∀ u ∈ cellsL encTax l, u.oneCell' = true := fun u hu => by
  obtain ⟨v, hv, hu⟩ := List.mem_flatten.1 hu
  obtain ⟨x, hx, rfl⟩ := List.mem_map.1 hv
  exact encTax_one x u hu
theorem ints_one (k : IntKind) (l : List Int) : ∀ u ∈ l.map (Value.int k), u.oneCell' = true := fun u hu => by
  obtain ⟨x, hx, rfl⟩ := List.mem_map.1 hu
  rfl
def CloneL : Nat := 77
def CloneT : Nat := 78
def CloneI : Nat := 79
structure SlOk (a : Option Addr) (n cap : Nat) : Prop where
  nil : a = none → n = 0 ∧ cap = 0
theorem cloneL0 (F : CF) {a : Option Addr} {n cap : Nat} {l : List Leg} (hR : ∀ b v, Rd (F b v) a (cellsL encLeg l)) (hl : l.length = n) (ok : SlOk a n cap) (hn : n ≤ 1073741824) :
    CallOK Tryz.prog CloneL [.val (.slice a n cap)] [((0, 0), .fam F)] [] (.raw 1 0) [((1, 0), legR n l)] := by
  cases a with
  | none =>
    obtain ⟨h0, hc⟩ := ok.nil rfl
    subst h0; subst hc
    have : l = [] := List.length_eq_zero_iff.1 hl
    subst this
    exact callOK_run 400 [] (by kernel_rfl) (by kernel_rfl)
  | some a =>
    have c1 := app_openG (P := Tryz.prog) (t := 33) (t' := 33) (size := 3) (j := 0) (F := F) (a := some a) (n := n) (cap := cap) (xs := cellsL encLeg l) Tryz.underlying33 Tryz.underlying33 (by kernel_rfl) (by rw [cellsL_len encLeg_len, hl]) (legs_one l) hR hn
    exact callOK_run 400 [hG 3 2 c1] (by kernel_rfl) (by kernel_rfl)
theorem cloneT0 (F : CF) {a : Option Addr} {n cap : Nat} {l : List Tax} (hR : ∀ b v, Rd (F b v) a (cellsL encTax l)) (hl : l.length = n) (ok : SlOk a n cap) (hn : n ≤ 1073741824) :
    CallOK Tryz.prog CloneT [.val (.slice a n cap)] [((0, 0), .fam F)] [] (.raw 1 0) [((1, 0), taxR n l)] := by
  cases a with
  | none =>
    obtain ⟨h0, hc⟩ := ok.nil rfl
    subst h0; subst hc
    have : l = [] := List.length_eq_zero_iff.1 hl
    subst this
    exact callOK_run 400 [] (by kernel_rfl) (by kernel_rfl)
  | some a =>
    have c1 := app_openG (P := Tryz.prog) (t := 34) (t' := 34) (size := 2) (j := 0) (F := F) (a := some a) (n := n) (cap := cap) (xs := cellsL encTax l) Tryz.underlying34 Tryz.underlying34 (by kernel_rfl) (by rw [cellsL_len encTax_len, hl]) (taxes_one l) hR hn
    exact callOK_run 400 [hG 3 2 c1] (by kernel_rfl) (by kernel_rfl)
theorem cloneI0 (F : CF) {a : Option Addr} {n cap : Nat} {l : List Int} (hR : ∀ b v, Rd (F b v) a (l.map (.int .i64))) (hl : l.length = n) (ok : SlOk a n cap) (hn : n ≤ 1073741824) :
    CallOK Tryz.prog CloneI [.val (.slice a n cap)] [((0, 0), .fam F)] [] (.raw 1 0) [((1, 0), i64R n l)] := by
  cases a with
  | none =>
    obtain ⟨h0, hc⟩ := ok.nil rfl
    subst h0; subst hc
    have : l = [] := List.length_eq_zero_iff.1 hl
    subst this
    exact callOK_run 400 [] (by kernel_rfl) (by kernel_rfl)
  | some a =>
    have c1 := app_openG (P := Tryz.prog) (t := 40) (t' := 40) (size := 1) (j := 0) (F := F) (a := some a) (n := n) (cap := cap) (xs := l.map (.int .i64)) Tryz.underlying40 Tryz.underlying40 (by kernel_rfl) (by rw [List.length_map, hl, Nat.mul_one]) (ints_one .i64 l) hR hn
    exact callOK_run 400 [hG 3 2 c1] (by kernel_rfl) (by kernel_rfl)
def salS (s : SaleV) (vl vt : SV) : List SV := [.val (.string s.name), vl, .val (.int .i64 s.fare), vt, .val (.int .i64 s.pen)]
def ShareF : Nat := 81
def TCheckF : Nat := 80
def u32R (n : Nat) (l : List Value) : SC := .row 46 1 n (.shal l) []
theorem share_w (t : Int) (ws : List Int) (hp : PosRow ws) (hl : ws.length ≤ 9223372036854775807) {xs : List Value} (hx : xs = ws.map (.int .u32)) {n : Nat} (hn : n = ws.length) :
    CallOK Tryz.prog ShareF [.val (.int .i64 t), .raw 0 0] [((0, 0), u32R n xs)] [] (.tup [.raw 1 0, eN (shareE t ws)]) [((1, 0), i64R (shareV t ws).length (shareV t ws))] := by
  subst hx; subst hn
  intro ε R w hM
  have hM : Mem (rowC 46 1 (asSl (ε 0 0).2) ws.length (ws.map (.int .u32)) :: R) w := hM
  obtain ⟨a, c, hv, hr, -⟩ := (hM.owns 0 rfl).row
  have hA : (SV.dens ε [.val (.int .i64 t), .raw 0 0]).toArray = #[.int .i64 t, .slice a ws.length c] := by simp only [SV.dens, SV.den]; rw [hv]
  rw [hA]
  refine (share_any t ws a c w hr hp hl).mono ?_
  rintro e w' ⟨v, rfl, ho, hb, -⟩
  have hrow := RowF.of ho
  have hv' : asSl v = v := by
    obtain ⟨-, ⟨h1, -⟩ | ⟨g, cap, cur, h1, -⟩⟩ := hrow <;> rw [h1] <;> rfl
  refine ⟨fun _ => (0, v), by simp only [SV.den, SV.dens, eN, eset_at, hv'], ?_⟩
  have h2 := hM.fresh (c := rowC 2 1 v (shareV t ws).length ((shareV t ws).map (.int .i64))) hb (fun g => v.ownBlock = some g) ⟨fun g hg => hg, hrow⟩ (fun g hg => ⟨by
    obtain ⟨-, ⟨h1, -⟩ | ⟨g', cap, cur, h1, h2, -⟩⟩ := ho
    · rw [h1] at hg; cases hg
    · rw [h1] at hg; cases hg; exact h2, hrow.lt hg⟩)
  have e0 : (SC.row 46 1 ws.length (.shal (ws.map (Value.int .u32))) []).den (eset ε 1 fun _ => (0, v)) 0 0 = rowC 46 1 (asSl (ε 0 0).2) ws.length (ws.map (.int .u32)) := by
    simp only [SC.den, SL.den]; rw [eset_ne (show (0 : Nat) ≠ 1 by decide)]
  have e1 : (i64R (shareV t ws).length (shareV t ws)).den (eset ε 1 fun _ => (0, v)) 1 0 = rowC 2 1 v (shareV t ws).length ((shareV t ws).map (.int .i64)) := by
    simp only [i64R, SC.den, SL.den, eset_at, hv']
  show Mem ((u32R ws.length (ws.map (.int .u32))).den (eset ε 1 fun _ => (0, v)) 0 0 :: (i64R (shareV t ws).length (shareV t ws)).den (eset ε 1 fun _ => (0, v)) 1 0 :: R) w'
  unfold u32R
  rw [e0, e1]
  exact mem_perm (List.Perm.swap _ _ _) h2
theorem tcheck_w (F : CF) {s : SaleV} {A : SaleA} (n : Int) (ok : SaleOk s) (hl : ∀ b v, Rd (F b v) A.la (cellsL encLeg s.legs)) (ht : ∀ b v, Rd (F b v) A.ta (cellsL encTax s.taxes)) (h1 : A.la = none → A.lc = 0) (h2 : A.ta = none → A.tc = 0) :
    CallOK Tryz.prog TCheckF [.agg (salS s (.val (.slice A.la s.legs.length A.lc)) (.val (.slice A.ta s.taxes.length A.tc))), .val (.int .i64 n)] [((0, 0), .fam F)] [] (eN (checkE s n)) [] := by
  intro ε R w hM
  have hM : Mem (F (ε 0 0).1 (ε 0 0).2 :: R) w := hM
  have hs : SaleAt w s A := ⟨(hl _ _).row hM 0 rfl, (ht _ _).row hM 0 rfl, h1, h2⟩
  refine (tcheck_any s A n w hs ok).mono ?_
  rintro e w' ⟨rfl, hb⟩
  exact ⟨ε 1, rfl, by rw [eset_self]; exact hM.kept hb⟩
def docS (d : DocV) (vl vt vv : SV) : List SV := [.val (.int .u8 d.t.c), .val (.int .u64 d.t.r), .val (.string d.s.name), vl, .val (.int .i64 d.s.fare), vt, .val (.int .i64 d.s.pen), vv, .val (.int .u8 d.frm.c), .val (.int .u64 d.frm.r), .val (.int .u8 d.dst.c), .val (.int .u64 d.dst.r), .val (.int .i64 d.credit), .val (.int .i64 d.paid), .val (.int .i64 d.back), .val (.int .i64 d.kept), .val (.int .i64 d.left)]
def nilS : SV := .val (.slice none 0 0)
def doc0 : DocV := ⟨⟨0, 0⟩, ⟨⟨#[]⟩, [], 0, [], 0⟩, [], ⟨0, 0⟩, ⟨0, 0⟩, 0, 0, 0, 0, 0⟩
def docMade (t : Tid) (s : SaleV) : DocV := ⟨t, s, shareV s.fare (wsOf s), ⟨0, 0⟩, ⟨0, 0⟩, 0, s.fare, 0, 0, 0⟩
def MakeF : Nat := 39
def wsV (l : List Leg) : Nat → List Value
  | 0 => []
  | i + 1 => wsV l i ++ [.int .u32 (l.getD i leg0).x]
theorem wsV_eq (l : List Leg) : ∀ i ≤ l.length, wsV l i = ((l.take i).map (·.x)).map (.int .u32)
  | 0, _ => by simp [wsV]
  | i + 1, h => by
    rw [List.take_succ_eq_append_getElem h, List.map_append, List.map_append]
    unfold wsV
    rw [wsV_eq l i (by omega), List.getD_eq_getElem?_getD, List.getElem?_eq_getElem h]; rfl
theorem legS_nth {l : List Leg} {i : Nat} {x : Leg} (hx : l[i]? = some x) : ∀ (ε : Env) (q : Nat) (v : SV), (legS' x)[q]? = some v → (cellsL encLeg l)[i * 3 + q]? = some (v.den ε) := cells_nth (fun _ _ => rfl) encLeg_len hx
theorem taxS_nth {l : List Tax} {i : Nat} {x : Tax} (hx : l[i]? = some x) : ∀ (ε : Env) (q : Nat) (v : SV), (taxS' x)[q]? = some v → (cellsL encTax l)[i * 2 + q]? = some (v.den ε) := cells_nth (fun _ _ => rfl) encTax_len hx
theorem getD_some {α : Type} {l : List α} {i : Nat} (h : i < l.length) (d : α) : l[i]? = some (l.getD i d) := by
  rw [List.getD_eq_getElem?_getD, List.getElem?_eq_getElem h]; rfl
theorem make_no (F : CF) {c r n : Int} {s : SaleV} {A : SaleA} (ok : SaleOk s) (hc : 0 ≤ c ∧ c ≤ 255) (hl : ∀ b v, Rd (F b v) A.la (cellsL encLeg s.legs)) (ht : ∀ b v, Rd (F b v) A.ta (cellsL encTax s.taxes)) (h1 : A.la = none → A.lc = 0) (h2 : A.ta = none → A.tc = 0) (hm : makeE c r s n ≠ 0) :
    CallOK Tryz.prog MakeF [.agg [.val (.int .u8 c), .val (.int .u64 r)], .agg (salS s (.val (.slice A.la s.legs.length A.lc)) (.val (.slice A.ta s.taxes.length A.tc))), .val (.int .i64 n)] [((0, 0), .fam F)] [] (.tup [.agg (docS doc0 nilS nilS nilS), eN (makeE c r s n)]) [] := by
  have c1 := tcheck_w F n ok hl ht h1 h2
  have w1 : IntKind.i64.wrap c = c := wr_i64 (by omega)
  have one : (checkE s n = 1 ∨ ticketB c r n = false) → makeE c r s n = 1 := fun e => by unfold makeE; rw [if_pos e]
  rcases Bool.eq_false_or_eq_true (decide (checkE s n = 1)) with g1 | g1
  · rw [one (.inl (of_decide_eq_true g1))]
    exact callOK_run 400 [hC 1 2 c1, hB 2 1 _ _ g1] (by kernel_rfl) (by kernel_rfl)
  rcases Bool.eq_false_or_eq_true (decide (n ≤ c)) with g2 | g2
  · rw [one (.inr (by unfold ticketB; rw [decide_eq_false (by have := of_decide_eq_true g2; omega)]; rfl))]
    exact callOK_run 400 [hC 1 2 c1, hB 2 1 _ _ g1, hI 2 5 IntKind.i64 _ _ w1, hB 2 7 _ _ g2] (by kernel_rfl) (by kernel_rfl)
  rcases Bool.eq_false_or_eq_true (decide (r < 1)) with g3 | g3
  · rw [one (.inr (by unfold ticketB; rw [decide_eq_false (p := 1 ≤ r) (by have := of_decide_eq_true g3; omega), Bool.and_false]; rfl))]
    exact callOK_run 400 [hC 1 2 c1, hB 2 1 _ _ g1, hI 2 5 IntKind.i64 _ _ w1, hB 2 7 _ _ g2, hB 2 12 _ _ g3] (by kernel_rfl) (by kernel_rfl)
  rcases Bool.eq_false_or_eq_true (decide (9999999999 < r)) with g4 | g4
  · rw [one (.inr (by unfold ticketB; rw [decide_eq_false (p := r ≤ 9999999999) (by have := of_decide_eq_true g4; omega), Bool.and_false]))]
    exact callOK_run 400 [hC 1 2 c1, hB 2 1 _ _ g1, hI 2 5 IntKind.i64 _ _ w1, hB 2 7 _ _ g2, hB 2 12 _ _ g3, hB 2 17 _ _ g4] (by kernel_rfl) (by kernel_rfl)
  have e : makeE c r s n = checkE s n := by
    unfold makeE
    have a1 := of_decide_eq_false g1
    have a2 := of_decide_eq_false g2
    have a3 := of_decide_eq_false g3
    have a4 := of_decide_eq_false g4
    rw [if_neg (by
      rintro (h | h)
      · exact a1 h
      · unfold ticketB at h
        rw [decide_eq_true (by omega), decide_eq_true (by omega), decide_eq_true (by omega)] at h
        cases h)]
  have g5 : (!decide (checkE s n = 0)) = true := by rw [← e]; simpa using hm
  rw [e]
  exact callOK_run 400 [hC 1 2 c1, hB 2 1 _ _ g1, hI 2 5 IntKind.i64 _ _ w1, hB 2 7 _ _ g2, hB 2 12 _ _ g3, hB 2 17 _ _ g4, hB 4 1 _ _ g5] (by kernel_rfl) (by kernel_rfl)
theorem make_ok (F : CF) {c r n : Int} {s : SaleV} {A : SaleA} (ok : SaleOk s) (hc : 0 ≤ c ∧ c ≤ 255) (hl : ∀ b v, Rd (F b v) A.la (cellsL encLeg s.legs)) (ht : ∀ b v, Rd (F b v) A.ta (cellsL encTax s.taxes)) (h1 : SlOk A.la s.legs.length A.lc) (h2 : SlOk A.ta s.taxes.length A.tc) (hm : makeE c r s n = 0) :
    CallOK Tryz.prog MakeF [.agg [.val (.int .u8 c), .val (.int .u64 r)], .agg (salS s (.val (.slice A.la s.legs.length A.lc)) (.val (.slice A.ta s.taxes.length A.tc))), .val (.int .i64 n)] [((0, 0), .fam F)] [] (.tup [.agg (docS (docMade ⟨c, r⟩ s) (.raw 1 0) (.raw 1 1) (.raw 1 2)), eN 0])
      [((1, 0), legR s.legs.length s.legs), ((1, 1), taxR s.taxes.length s.taxes), ((1, 2), i64R (shareV s.fare (wsOf s)).length (shareV s.fare (wsOf s)))] := by
  have nl := ok.nl
  have nt := ok.nt
  have hp := ws_pos ok
  have c1 := tcheck_w F n ok hl ht (fun e => (h1.nil e).2) (fun e => (h2.nil e).2)
  have w1 : IntKind.i64.wrap c = c := wr_i64 (by omega)
  have k1 := cloneL0 F hl rfl h1 (by omega)
  have k2 := cloneT0 F ht rfl h2 (by omega)
  have hE : ¬ (checkE s n = 1 ∨ ticketB c r n = false) := fun e => by unfold makeE at hm; rw [if_pos e] at hm; cases hm
  have hck : checkE s n = 0 := by unfold makeE at hm; rwa [if_neg hE] at hm
  have hT : ticketB c r n = true := by
    cases h : ticketB c r n with
    | true => rfl
    | false => exact absurd (.inr h) hE
  simp only [ticketB, Bool.and_eq_true, decide_eq_true_eq] at hT
  have g1 : decide (checkE s n = 1) = false := decide_eq_false (by omega)
  have g2 : decide (n ≤ c) = false := decide_eq_false (by omega)
  have g3 : decide (r < 1) = false := decide_eq_false (by omega)
  have g4 : decide (9999999999 < r) = false := decide_eq_false (by omega)
  have g5 : (!decide (checkE s n = 0)) = false := by rw [hck]; rfl
  obtain ⟨-, -, hsh, -⟩ := check_shape hck
  obtain ⟨hS, -⟩ := shape_share ok hsh
  refine callOK_intro (by kernel_rfl) fun eb R => ?_
  refine go_loop (X := { i : Nat // i ≤ s.legs.length }) 0 [] (fun x => ([(3, .ptr 1 0 0), (4, .ptr 1 1 0), (6, .ptr 1 2 0), (9, .raw 1 3), (52, .raw 1 4), (53, .val (.int .i64 (s.legs.length : Int))), (54, .val (.int .i64 (x.1 : Int)))],
      [((0, 0), .fam F), ((1, 0), .box none [.val (.int .u8 c), .val (.int .u64 r)]), ((1, 1), .box none (salS s (.raw 1 4) (.raw 1 5))), ((1, 2), .box none (docS doc0 nilS nilS nilS)), ((1, 3), u32R x.1 (wsV s.legs x.1)), ((1, 4), legR s.legs.length s.legs), ((1, 5), taxR s.taxes.length s.taxes)]))
    (fun x => s.legs.length - x.1) ⟨0, Nat.zero_le _⟩ calNone false 400 [hC 1 2 c1, hI 1 2 IntKind.i64 _ _ hck, hI 2 5 IntKind.i64 _ _ w1, hB 2 7 _ _ g2, hB 2 12 _ _ g3, hB 2 17 _ _ g4, hC 6 2 k1, hC 6 5 k2] calNone_ok (by kernel_rfl) ?_
  rintro ⟨i, hi⟩ J hJ
  by_cases h : i < s.legs.length
  · have q1 : decide ((i : Int) < (s.legs.length : Int)) = true := decide_eq_true (by omega)
    have q2 := load_eltG (P := Tryz.prog) (t := 48) (cs := legS' (s.legs.getD i leg0)) (n := s.legs.length) (p := 0) (j := 0) (b := i * 3) (E := 48) (size := 3) (u := .agg (legS' (s.legs.getD i leg0))) (by kernel_rfl) (legS_nth (getD_some h leg0))
    have q3 : i + 1 ≤ 1073741824 := by omega
    have q4 : IntKind.i64.wrap ((i : Int) + 1) = ((i + 1 : Nat) : Int) := by rw [wr_i64 (by omega)]; omega
    exact leaf_next calNone false 400 [hB 9 0 _ _ q1, .opt 10 0 (.at_ 0 _ _ _ ⟨rfl, h⟩), hG 10 1 q2, .opt 11 4 (.le _ q3), hI 12 0 IntKind.i64 _ _ q4] calNone_ok (hJ ⟨i + 1, h⟩ (by show _ - (i + 1) < _ - i; omega)) (by kernel_rfl)
  have he : i = s.legs.length := by omega
  subst he
  have q1 : decide ((s.legs.length : Int) < (s.legs.length : Int)) = false := decide_eq_false (by omega)
  have q2 := share_w s.fare (wsOf s) hp (by rw [ws_len]; omega) (xs := wsV s.legs s.legs.length) (by rw [wsV_eq _ _ (Nat.le_refl _), List.take_length]; rfl) (n := s.legs.length) (ws_len s).symm
  rw [hS] at q2
  exact leaf_end calNone false 400 [hB 9 0 _ _ q1, hC 13 3 q2] calNone_ok (by kernel_rfl)
end Go.Proofs.YtmhbpifhpolghaaGreat
end
