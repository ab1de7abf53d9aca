/- Pn1, PostPlain, BoxLoad, Post1. -/
import Derived.Test.YtifapcpcemigdaaGreatSxE
import Derived.Test.YtifapcpcemigdaaGreatM03a5973
import Derived.Shelf.SlicesQ.Load
import Derived.Test.YtifapcpcemigdaaGreatRows
import Derived.Deep.DeepCutAuto
set_option maxRecDepth 100000
set_option linter.unusedVariables false
set_option linter.unusedSimpArgs false
set_option linter.unusedSectionVars false
section
namespace Go.Sx
open Go.RowKit Go.Tk Go.Lib Go.Shelf Go.Vc
theorem row_drop {w : World} {a : Option Addr} {xs : List Value} (h : Row w a xs) (d : Nat) : Row w (a.map (·.add d)) (xs.drop d) := by
  intro i hi
  rw [List.length_drop] at hi
  obtain ⟨b, off, ha, hc⟩ := h (d + i) (by omega)
  subst ha
  refine ⟨b, off + d, by simp only [Option.map_some, addr_add], ?_⟩
  rw [Nat.add_assoc, hc, List.getD_eq_getElem?_getD, List.getD_eq_getElem?_getD, List.getElem?_drop]
end Go.Sx
end
section
namespace Go.Proofs.YtifapcpcemigdaaGreat
open Go.RowKit Go.Lib Go.Tk
structure Msg where
  k : Int
  tc : Int
  tr : Int
  ix : Int
  lc : Int
  lf : Int
  lx : Int
  v : Int
  st : Int
  nn : Int
  amt : Int
  cd : Int
deriving DecidableEq, Inhabited
def encMsg (m : Msg) : List Value := [.int .u8 m.k, .int .u8 m.tc, .int .u64 m.tr, .int .u8 m.ix, .int .u8 m.lc, .int .u16 m.lf, .int .u32 m.lx, .int .i64 m.v, .int .u8 m.st, .int .u32 m.nn, .int .i64 m.amt, .int .i64 m.cd]
def msgAgg (m : Msg) : Value := .agg #[.int .u8 m.k, .int .u8 m.tc, .int .u64 m.tr, .int .u8 m.ix, .int .u8 m.lc, .int .u16 m.lf, .int .u32 m.lx, .int .i64 m.v, .int .u8 m.st, .int .u32 m.nn, .int .i64 m.amt, .int .i64 m.cd]
theorem encMsg_len (m : Msg) : (encMsg m).length = 12 := rfl
theorem encMsg_one (m : Msg) : ∀ v ∈ encMsg m, v.oneCell' = true := by simp [encMsg, Value.oneCell']
structure BoxV where
  wait : List Msg
  given : Int
  last : Int
structure PostV where
  self : Int
  n : Int
  box : Nat → BoxV
def PostV.other (P : PostV) (c : Int) : Bool := decide (0 ≤ c) && decide (c < P.n) && !decide (c = P.self)
def PostV.put (P : PostV) (c : Nat) (X : BoxV) : PostV := { P with box := fun i => if i = c then X else P.box i }
def PostV.cs (P : PostV) : List Nat := (List.range P.n.toNat).filter fun c => P.other c
structure BoxOk (X : BoxV) : Prop where
  len : X.wait.length ≤ 32
  le : (X.wait.length : Int) ≤ X.given
  hi : X.given ≤ 4294967296
  l0 : 0 ≤ X.last
  l1 : X.last ≤ 18446744073709551615
structure PostOk (P : PostV) : Prop where
  n0 : 2 ≤ P.n
  n1 : P.n ≤ 8
  s0 : 0 ≤ P.self
  s1 : P.self < P.n
  box : ∀ c, BoxOk (P.box c)
def newE (self n : Int) : Int := if n < 2 ∨ 8 < n ∨ n ≤ self then 1 else 0
def newP (self n : Int) : PostV := ⟨self, n, fun _ => ⟨[], 0, 0⟩⟩
def pushX (X : BoxV) (m : Msg) : Int × BoxV := if 32 ≤ X.wait.length then (3, X) else (0, ⟨X.wait ++ [m], X.given + 1, X.last⟩)
def doneX (X : BoxV) : Int := X.given - X.wait.length
def ackX (X : BoxV) (number : Int) : Int × BoxV :=
  if X.given < number then (1, X) else if number ≤ doneX X then (6, X) else (0, ⟨X.wait.drop (number - doneX X).toNat, X.given, X.last⟩)
def tookX (X : BoxV) (number : Int) : Int × BoxV := if number = 0 ∨ number - 1 ≠ X.last then (6, X) else (0, ⟨X.wait, X.given, number⟩)
def doP (f : BoxV → Int × BoxV) (P : PostV) (c : Int) : Int × PostV := if P.other c then ((f (P.box c.toNat)).1, P.put c.toNat (f (P.box c.toNat)).2) else (1, P)
theorem mem_cs {P : PostV} {c : Nat} : c ∈ P.cs ↔ P.other c = true := by
  unfold PostV.cs
  rw [List.mem_filter, List.mem_range]
  constructor
  · exact fun h => h.2
  · intro h
    refine ⟨?_, h⟩
    simp only [PostV.other, Bool.and_eq_true, decide_eq_true_eq] at h
    omega
theorem cs_nodup (P : PostV) : P.cs.Nodup := List.nodup_range.sublist List.filter_sublist
theorem pushX_ok {X : BoxV} {m : Msg} (h : BoxOk X) (hg : X.given < 4294967296) : BoxOk (pushX X m).2 := by
  unfold pushX
  split
  · exact h
  · have := h.len; have := h.le
    exact ⟨by simp; omega, by simp; omega, by show X.given + 1 ≤ _; omega, h.l0, h.l1⟩
theorem ackX_ok {X : BoxV} {k : Int} (h : BoxOk X) : BoxOk (ackX X k).2 := by
  unfold ackX
  split
  · exact h
  · split
    · exact h
    · have := h.len; have := h.le
      exact ⟨by simp; omega, by simp; omega, h.hi, h.l0, h.l1⟩
theorem tookX_ok {X : BoxV} {k : Int} (h : BoxOk X) (h0 : 0 ≤ k) (h1 : k ≤ 18446744073709551615) : BoxOk (tookX X k).2 := by
  unfold tookX
  split
  · exact h
  · exact ⟨h.len, h.le, h.hi, h0, h1⟩
theorem put_ok {P : PostV} (h : PostOk P) {c : Nat} {X : BoxV} (hx : BoxOk X) : PostOk (P.put c X) :=
  ⟨h.n0, h.n1, h.s0, h.s1, fun i => by
    show BoxOk (if i = c then X else P.box i)
    split
    · exact hx
    · exact h.box i⟩
end Go.Proofs.YtifapcpcemigdaaGreat
end
section
namespace Go.Proofs.YtifapcpcemigdaaGreat
open Go.RowKit Go.Lib Go.Tk Go.Shelf
theorem box_part {w : World} {b off n : Nat} {vs : Array Value} (h : Box w b vs) (part : Array Value) (hn : part.size = n) (hp : ∀ j v, part[j]? = some v → vs[off + j]? = some v) :
    Sem.run Tryz.prog (loadCellsFrom ⟨b, off, none⟩ 0 n #[]) w = .ok part w := by
  have := run_loadCellsFrom_list Tryz.prog w (Addr.mk b off none) part.toList n (by simpa using hn) (fun j v hj => by
    have : (Addr.mk b off none).add j = ⟨b, off + j, none⟩ := by
      unfold Addr.add
      split
      · rename_i e; subst e; rfl
      · simp
    rw [this]
    exact h.cell _ (hp j v (by simpa using hj)))
  simpa using this
theorem box_whole {w : World} {b n : Nat} {vs : Array Value} (h : Box w b vs) (hn : vs.size = n) : Sem.run Tryz.prog (loadCellsFrom ⟨b, 0, none⟩ 0 n #[]) w = .ok vs w :=
  box_part h vs hn (fun j v hj => by simpa using hj)
end Go.Proofs.YtifapcpcemigdaaGreat
end
section
namespace Go.Proofs.YtifapcpcemigdaaGreat
open Go.RowKit Go.Lib Go.Tk Go.Shelf
attribute [-go_sem] loadCellsFrom
theorem msgrow : (Tryz.prog.info? 48).map (fun i => (i.zero, i.size, i.bytes)) = some (some (.agg #[.int .u8 0, .int .u8 0, .int .u64 0, .int .u8 0, .int .u8 0, .int .u16 0, .int .u32 0, .int .i64 0, .int .u8 0, .int .u32 0, .int .i64 0, .int .i64 0]), 12, 72) := by kernel_rfl
structure BoxIn (w : World) (base b : Nat) (v : Value) (X : BoxV) : Prop where
  cells : Box w b #[v, .int .u64 X.given, .int .u64 X.last]
  row : w.ownsRow base 48 12 v X.wait.length (cellsL encMsg X.wait)
  ne : ∀ g, v.ownBlock = some g → g ≠ b
  lo : base ≤ b
theorem BoxIn.fr {S : Nat → Prop} {w w' : World} {base b : Nat} {v : Value} {X : BoxV} (h : BoxIn w base b v X) (f : Fr S w w') (h1 : ¬ S b) (h2 : ∀ g, v.ownBlock = some g → ¬ S g) : BoxIn w' base b v X :=
  ⟨h.cells.fr f h1, ownsRow_fr h.row f h2, h.ne, h.lo⟩
theorem BoxIn.kept {w w' : World} {base b : Nat} {v : Value} {X : BoxV} (h : BoxIn w base b v X) (hb : Below w.heap.size w w') : BoxIn w' base b v X := h.fr (fr_below (fun _ => False) hb) (fun f => f) (fun _ _ f => f)
def boxFoot (b : Nat) (v : Value) : Nat → Prop := fun k => k = b ∨ v.ownBlock = some k
def BoxDid (w : World) (base b : Nat) (v : Value) (r : Int × BoxV) (e : Ending) (w' : World) : Prop :=
  e = .returned (.int .i64 r.1) ∧ ∃ v', BoxIn w' base b v' r.2 ∧ (v'.ownBlock = v.ownBlock ∨ ∀ g, v'.ownBlock = some g → w.heap.size ≤ g) ∧ Fr (boxFoot b v) w w'
set_option maxRecDepth 100000 in
set_option maxHeartbeats 4000000 in
theorem push1_any (base b cb : Nat) (v : Value) (X : BoxV) (m : Msg) (w : World) (h : BoxIn w base b v X) (ok : BoxOk X) (hm : Box w cb (encMsg m).toArray) (hbase : base ≤ w.heap.size) :
    Calls Tryz.prog 142 #[.pointer (some ⟨b, 0, none⟩), .pointer (some ⟨cb, 0, none⟩)] w (BoxDid w base b v (pushX X m)) := by
  obtain ⟨va, vc, hv, -, hn, -⟩ := own_slice h.row
  have k0 : w.cell? ⟨b, 0, none⟩ = some v := h.cells.cell 0 rfl
  have k1 : w.cell? ⟨b, 1, none⟩ = some (.int .u64 X.given) := h.cells.cell 1 rfl
  have f0 := h.cells.free 0
  have f1 := h.cells.free 1
  have lb := h.cells.lt
  have lc := hm.lt
  have hle := ok.len
  subst hv
  by_cases hl : 32 ≤ X.wait.length
  · have HX := hid (show pushX X m = (3, X) by unfold pushX; rw [if_pos hl])
    have HB := hid h
    clear h ok hm
    go_enter Tryz.func142, Tryz.ntmps142
    go_wp2
    go_ret
    unfold BoxDid
    rw [HX.out]
    exact ⟨rfl, _, HB.out, .inl rfl, Fr.refl _ _⟩
  · have HX := hid (show pushX X m = (0, ⟨X.wait ++ [m], X.given + 1, X.last⟩) by unfold pushX; rw [if_neg hl])
    have HB := hid h
    have HM := hid hm
    have HI := hid msgrow
    have ld := box_whole (n := 12) (hm.kept (Below.refl _ _).drew) rfl
    clear h hm
    unfold encMsg at ld
    go_enter Tryz.func142, Tryz.ntmps142
    go_upto_region 3 with fail
    go_region_law (refine step_append_row rfl (.tmp 14) (.tmp 16) 117 rfl base 48 _ 12 72 Tryz.underlying117 HI.out rfl (by decide) _ X.wait.length _ rfl (World.ownsRow.alloc HB.out.row.drew _) _ 1 1 (encMsg m) rfl (row_new (by simp)) rfl (encMsg_one m) (by unfold maxLen; omega) (by omega) (by simp; omega) ?_; intro v1 w4 ho1 hg1 hat1; obtain ⟨a1, c1, rfl, -, -, -⟩ := own_slice ho1; have X4 := (HB.out.cells.kept (((Below.refl w.heap.size w).drew).alloc (Nat.le_refl _) _)).grown hg1 (fun e => HB.out.ne _ e rfl); have f4 := X4.free 0; have g4 := X4.free 1; have k4 := X4.cell 0 rfl; have k5 : w4.cell? ⟨b, 1, none⟩ = some (.int .u64 X.given) := X4.cell 1 rfl)
    all_goals
      have hat : (Value.slice a1 (X.wait.length + 1) c1).ownBlock = (Value.slice va X.wait.length vc).ownBlock ∨ ∀ g, (Value.slice a1 (X.wait.length + 1) c1).ownBlock = some g → w.heap.size ≤ g := by
        rcases hat1 with h | h
        · exact .inl h
        · right
          intro g e
          rw [h] at e
          cases e
          simp
      have ne1 : (Value.slice a1 (X.wait.length + 1) c1).ownBlock ≠ some b := fun e => by
        rcases hat with h | h
        · rw [h] at e; exact HB.out.ne _ e rfl
        · have := h _ e; omega
      have F4 : Fr (boxFoot b (Value.slice va X.wait.length vc)) w w4 := (fr_below _ (((Below.refl w.heap.size w).drew).alloc (Nat.le_refl _) _)).grown hg1 (fun g e => .inr e)
      have D4 := hid (show BoxIn ((w4.setCell ⟨b, 0, none⟩ (.slice a1 (X.wait.length + 1) c1)).setCell ⟨b, 1, none⟩ (.int .u64 (X.given + 1))) base b (.slice a1 (X.wait.length + 1) c1) (pushX X m).2 ∧ Fr (boxFoot b (Value.slice va X.wait.length vc)) w ((w4.setCell ⟨b, 0, none⟩ (.slice a1 (X.wait.length + 1) c1)).setCell ⟨b, 1, none⟩ (.int .u64 (X.given + 1))) by
        rw [HX.out]
        refine ⟨⟨(X4.set 0 _).set 1 _, ?_, fun g e h => ne1 (by rw [e, h]), HB.out.lo⟩, (F4.set b 0 _ (.inl rfl)).set b 1 _ (.inl rfl)⟩
        rw [List.length_append, cellsL_snoc]
        exact (ho1.kept (grownBy_setCell' _ _ _ _) (.inr ne1)).kept (grownBy_setCell' _ _ _ _) (.inr ne1))
      have HAT := hid hat
      have g0 := ok.le
      have g1 := ok.hi
      clear hat ne1 F4 ho1 hg1 hat1 X4 f0 f1 k0 k1
      go_wp2
      go_ret
      exact ⟨by rw [HX.out]; rfl, _, D4.out.1, HAT.out, D4.out.2⟩
theorem len1_any (base b cb : Nat) (v z : Value) (X : BoxV) (w : World) (h : BoxIn w base b v X) (hc : Box w cb #[z]) :
    Calls Tryz.prog 48 #[.pointer (some ⟨b, 0, none⟩), .pointer (some ⟨cb, 0, none⟩)] w fun e w' => e = .returned (.int .i64 0) ∧ w' = w.setCell ⟨cb, 0, none⟩ (.int .i64 X.wait.length) := by
  obtain ⟨va, vc, rfl, -, -, -⟩ := own_slice h.row
  have k0 : w.cell? ⟨b, 0, none⟩ = some (.slice va X.wait.length vc) := h.cells.cell 0 rfl
  have c0 := hc.cell 0 rfl
  have f0 := hc.free 0
  clear h hc
  go_enter Tryz.func48, Tryz.ntmps48
  go_wp2
  go_ret
  exact ⟨rfl, rfl⟩
set_option maxRecDepth 100000 in
set_option maxHeartbeats 4000000 in
theorem took1_any (base b cb : Nat) (v : Value) (X : BoxV) (k : Int) (w : World) (h : BoxIn w base b v X) (ok : BoxOk X) (hc : Box w cb #[.int .u64 k]) (k0 : 0 ≤ k) (k1 : k ≤ 18446744073709551615) :
    Calls Tryz.prog 101 #[.pointer (some ⟨b, 0, none⟩), .pointer (some ⟨cb, 0, none⟩)] w (BoxDid w base b v (tookX X k)) := by
  have c2 : w.cell? ⟨b, 2, none⟩ = some (.int .u64 X.last) := h.cells.cell 2 rfl
  have f2 := h.cells.free 2
  have c0 : w.cell? ⟨cb, 0, none⟩ = some (.int .u64 k) := hc.cell 0 rfl
  have HB := hid h
  have l0 := ok.l0
  have l1 := ok.l1
  clear h ok hc
  by_cases h0 : k = 0
  · subst h0
    have HX := hid (show tookX X 0 = (6, X) by unfold tookX; rw [if_pos (.inl rfl)])
    go_enter Tryz.func101, Tryz.ntmps101
    go_upto_region 1 with fail
    go_quiet (fail)
    go_wp2
    go_ret
    rw [HX.out]
    exact ⟨rfl, _, HB.out.kept (drewN_below _ _), .inl rfl, fr_below _ (drewN_below _ _)⟩
  have q0 : (k == 0) = false := by simpa using h0
  have k2 : 1 ≤ k := by omega
  have hw : IntKind.u64.wrap (k - 1) = k - 1 := by rw [IntKind.wrap_u64]; omega
  by_cases h1 : k - 1 = X.last
  · have HX := hid (show tookX X k = (0, ⟨X.wait, X.given, k⟩) by unfold tookX; rw [if_neg (by rintro (h | h) <;> omega)])
    have q1 : (IntKind.u64.wrap (k - 1) != X.last) = false := by rw [hw, h1]; simp
    clear h1 h0 hw
    go_enter Tryz.func101, Tryz.ntmps101
    go_upto_region 1 with fail
    go_quiet (fail)
    go_wp2
    go_ret
    rw [HX.out]
    refine ⟨rfl, v, ⟨?_, ?_, HB.out.ne, HB.out.lo⟩, .inl rfl, (fr_below (boxFoot b v) (drewN_below w nq)).set b 2 _ (Or.inl rfl)⟩
    · exact (HB.out.cells.kept (drewN_below w nq)).set 2 _
    · refine (ownsRow_below HB.out.row (drewN_below w nq)).kept (grownBy_setCell' _ _ _ _) (.inr fun e => HB.out.ne _ e rfl)
  · have HX := hid (show tookX X k = (6, X) by unfold tookX; rw [if_pos (.inr h1)])
    have q1 : (IntKind.u64.wrap (k - 1) != X.last) = true := by rw [hw, bne_iff_ne]; exact h1
    clear h1 h0 hw
    go_enter Tryz.func101, Tryz.ntmps101
    go_upto_region 1 with fail
    go_quiet (fail)
    go_wp2
    go_ret
    rw [HX.out]
    exact ⟨rfl, _, HB.out.kept (drewN_below _ _), .inl rfl, fr_below _ (drewN_below _ _)⟩
set_option maxRecDepth 100000 in
set_option maxHeartbeats 1000000 in
theorem cloneMsg_any (l : List Msg) (a : Option Addr) (n cap : Nat) (w : World) (hn : l.length = n) (hc : a = none → cap = 0) (hr : Row w a (cellsL encMsg l)) (hl : n ≤ 1000) :
    Calls Tryz.prog 61 #[.slice a n cap] w fun e w' => ∃ v, e = .returned v ∧ w'.ownsRow w.heap.size 48 12 v n (cellsL encMsg l) ∧ Below w.heap.size w w' := by
  have HI := hid msgrow
  have hq := fun (w : World) (a : Option Addr) (n c : Nat) => Lib.run_eql_slice_nil (P := Tryz.prog) w 117 48 a n c 0 0 Tryz.underlying117
  cases a with
  | none =>
    have hn0 : l = [] := by
      rcases l with _ | ⟨x, r⟩
      · rfl
      · obtain ⟨b, off, h, _⟩ := hr 0 (by simp [cellsL, encMsg]); cases h
    subst hn0
    subst hn
    have hc0 := hc rfl
    subst hc0
    clear hr hc
    go_enter Tryz.func61, Tryz.ntmps61
    go_wp2
    go_ret
    exact ⟨_, rfl, World.ownsRow_nil _ _ _ _, Below.refl _ _⟩
  | some ad =>
    have Hr := hid hr
    have hn2 := hid hn
    clear hr hc hn
    have hlen : (cellsL encMsg l).length = n * 12 := by rw [cellsL_len encMsg_len, hn2.out]
    have HL := hid hlen
    clear hlen
    go_enter Tryz.func61, Tryz.ntmps61
    go_wp2_with (at_builtin; refine wpList_append_row_at rfl _ _ 117 rfl w.heap.size 48 _ 12 72 Tryz.underlying117 HI.out rfl (by decide) _ 0 [] rfl (World.ownsRow_lit (base := w.heap.size) (e := 48) (size := 12) w #[] 0 (Nat.le_refl _) (by unfold maxLen; omega) rfl) (some ad) n cap (cellsL encMsg l) rfl (by simp) (Hr.out.kept (below_alloc _ _)) HL.out (cellsL_one encMsg_one l) (by unfold maxLen; omega) (by omega) (by simp) ?_; intro v1 w3 ho1 hg1 hat1)
    have hg1' : (w.alloc (.cells #[] 48)).grownBy w3 (some w.heap.size) := hg1
    have ho1' : w3.ownsRow w.heap.size 48 12 v1 n (cellsL encMsg l) := by simpa using ho1
    have hb3 : Below w.heap.size w w3 := (below_alloc w _).grown hg1' (by simp) (fun g e => by cases e; exact Nat.le_refl _)
    clear hg1 hg1' hat1 ho1
    go_wp2
    go_ret
    exact ⟨_, rfl, ho1', hb3⟩
end Go.Proofs.YtifapcpcemigdaaGreat
end
