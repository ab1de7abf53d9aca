/- POST 1: a box: what the closures do with it. -/
import Derived.Test.YtfnneghddndeiaaMf2697ce
import Derived.Test.YtfnneghddndeiaaM611e1d5
import Derived.Test.YtfnneghddndeiaaRows
import Derived.Deep.DeepCutAuto
namespace Go.Proofs.Ytfnneghddndeiaa
open Go.RowKit Go.Lib Go.Tk Go.Shelf
attribute [-go_sem] loadCellsFrom
theorem msgrow : (Try.prog.info? 44).map (fun i => (i.zero, i.size, i.bytes)) = some (some (.agg #[.int .u8 0, .int .u8 0, .int .u64 0, .int .u8 0, .int .u8 0, .int .u16 0, .int .u32 0, .int .i64 0, .int .u8 0, .int .u32 0, .int .i64 0, .int .i64 0]), 12, 72) := by kernel_rfl
structure BoxIn (w : World) (base b : Nat) (v : Value) (X : BoxV) : Prop where
  cells : Box w b #[v, .int .u64 X.given, .int .u64 X.last]
  row : w.ownsRow base 44 12 v X.wait.length (cellsL encMsg X.wait)
  ne : ∀ g, v.ownBlock = some g → g ≠ b
  lo : base ≤ b
theorem BoxIn.fr {S : Nat → Prop} {w w' : World} {base b : Nat} {v : Value} {X : BoxV} (h : BoxIn w base b v X) (f : Fr S w w') (h1 : ¬ S b) (h2 : ∀ g, v.ownBlock = some g → ¬ S g) : BoxIn w' base b v X :=
  ⟨h.cells.fr f h1, ownsRow_fr h.row f h2, h.ne, h.lo⟩
theorem BoxIn.kept {w w' : World} {base b : Nat} {v : Value} {X : BoxV} (h : BoxIn w base b v X) (hb : Below w.heap.size w w') : BoxIn w' base b v X := h.fr (fr_below (fun _ => False) hb) (fun f => f) (fun _ _ f => f)
def boxFoot (b : Nat) (v : Value) : Nat → Prop := fun k => k = b ∨ v.ownBlock = some k
def BoxDid (w : World) (base b : Nat) (v : Value) (r : Int × BoxV) (e : Ending) (w' : World) : Prop :=
  e = .returned (.int .i64 r.1) ∧ ∃ v', BoxIn w' base b v' r.2 ∧ (v'.ownBlock = v.ownBlock ∨ ∀ g, v'.ownBlock = some g → w.heap.size ≤ g) ∧ Fr (boxFoot b v) w w'
set_option maxRecDepth 100000 in
set_option maxHeartbeats 4000000 in
theorem push1_any (base b cb : Nat) (v : Value) (X : BoxV) (m : Msg) (w : World) (h : BoxIn w base b v X) (ok : BoxOk X) (hm : Box w cb (encMsg m).toArray) (hbase : base ≤ w.heap.size) :
    Calls Try.prog 18 #[.pointer (some ⟨b, 0, none⟩), .pointer (some ⟨cb, 0, none⟩)] w (BoxDid w base b v (pushX X m)) := by
  obtain ⟨va, vc, hv, -, hn, -⟩ := own_slice h.row
  have k0 : w.cell? ⟨b, 0, none⟩ = some v := h.cells.cell 0 rfl
  have k1 : w.cell? ⟨b, 1, none⟩ = some (.int .u64 X.given) := h.cells.cell 1 rfl
  have f0 := h.cells.free 0
  have f1 := h.cells.free 1
  have lb := h.cells.lt
  have lc := hm.lt
  have hle := ok.len
  subst hv
  by_cases hl : 32 ≤ X.wait.length
  · have HX := hid (show pushX X m = (3, X) by unfold pushX; rw [if_pos hl])
    have HB := hid h
    clear h ok hm
    go_enter Try.func18, Try.ntmps18
    go_wp2
    go_ret
    unfold BoxDid
    rw [HX.out]
    exact ⟨rfl, _, HB.out, .inl rfl, Fr.refl _ _⟩
  · have HX := hid (show pushX X m = (0, ⟨X.wait ++ [m], X.given + 1, X.last⟩) by unfold pushX; rw [if_neg hl])
    have HB := hid h
    have HM := hid hm
    have HI := hid msgrow
    have ld := box_whole (n := 12) (hm.kept (Below.refl _ _).drew) rfl
    clear h hm
    unfold encMsg at ld
    go_enter Try.func18, Try.ntmps18
    go_upto_region 3 with fail
    go_region_law (refine step_append_row rfl (.tmp 14) (.tmp 16) 28 rfl base 44 _ 12 72 Try.underlying28 HI.out rfl (by decide) _ X.wait.length _ rfl (World.ownsRow.alloc HB.out.row.drew _) _ 1 1 (encMsg m) rfl (row_new (by simp)) rfl (encMsg_one m) (by unfold maxLen; omega) (by omega) (by simp; omega) ?_; intro v1 w4 ho1 hg1 hat1; obtain ⟨a1, c1, rfl, -, -, -⟩ := own_slice ho1; have X4 := (HB.out.cells.kept (((Below.refl w.heap.size w).drew).alloc (Nat.le_refl _) _)).grown hg1 (fun e => HB.out.ne _ e rfl); have f4 := X4.free 0; have g4 := X4.free 1; have k4 := X4.cell 0 rfl; have k5 : w4.cell? ⟨b, 1, none⟩ = some (.int .u64 X.given) := X4.cell 1 rfl)
    all_goals
      have hat : (Value.slice a1 (X.wait.length + 1) c1).ownBlock = (Value.slice va X.wait.length vc).ownBlock ∨ ∀ g, (Value.slice a1 (X.wait.length + 1) c1).ownBlock = some g → w.heap.size ≤ g := by
        rcases hat1 with h | h
        · exact .inl h
        · right
          intro g e
          rw [h] at e
          cases e
          simp
      have ne1 : (Value.slice a1 (X.wait.length + 1) c1).ownBlock ≠ some b := fun e => by
        rcases hat with h | h
        · rw [h] at e; exact HB.out.ne _ e rfl
        · have := h _ e; omega
      have F4 : Fr (boxFoot b (Value.slice va X.wait.length vc)) w w4 := (fr_below _ (((Below.refl w.heap.size w).drew).alloc (Nat.le_refl _) _)).grown hg1 (fun g e => .inr e)
      have D4 := hid (show BoxIn ((w4.setCell ⟨b, 0, none⟩ (.slice a1 (X.wait.length + 1) c1)).setCell ⟨b, 1, none⟩ (.int .u64 (X.given + 1))) base b (.slice a1 (X.wait.length + 1) c1) (pushX X m).2 ∧ Fr (boxFoot b (Value.slice va X.wait.length vc)) w ((w4.setCell ⟨b, 0, none⟩ (.slice a1 (X.wait.length + 1) c1)).setCell ⟨b, 1, none⟩ (.int .u64 (X.given + 1))) by
        rw [HX.out]
        refine ⟨⟨(X4.set 0 _).set 1 _, ?_, fun g e h => ne1 (by rw [e, h]), HB.out.lo⟩, (F4.set b 0 _ (.inl rfl)).set b 1 _ (.inl rfl)⟩
        rw [List.length_append, cellsL_snoc]
        exact (ho1.kept (grownBy_setCell' _ _ _ _) (.inr ne1)).kept (grownBy_setCell' _ _ _ _) (.inr ne1))
      have HAT := hid hat
      have g0 := ok.le
      have g1 := ok.hi
      clear hat ne1 F4 ho1 hg1 hat1 X4 f0 f1 k0 k1
      go_wp2
      go_ret
      exact ⟨by rw [HX.out]; rfl, _, D4.out.1, HAT.out, D4.out.2⟩
theorem len1_any (base b cb : Nat) (v z : Value) (X : BoxV) (w : World) (h : BoxIn w base b v X) (hc : Box w cb #[z]) :
    Calls Try.prog 25 #[.pointer (some ⟨b, 0, none⟩), .pointer (some ⟨cb, 0, none⟩)] w fun e w' => e = .returned (.int .i64 0) ∧ w' = w.setCell ⟨cb, 0, none⟩ (.int .i64 X.wait.length) := by
  obtain ⟨va, vc, rfl, -, -, -⟩ := own_slice h.row
  have k0 : w.cell? ⟨b, 0, none⟩ = some (.slice va X.wait.length vc) := h.cells.cell 0 rfl
  have c0 := hc.cell 0 rfl
  have f0 := hc.free 0
  clear h hc
  go_enter Try.func25, Try.ntmps25
  go_wp2
  go_ret
  exact ⟨rfl, rfl⟩
theorem given1_any (base b cb : Nat) (v z : Value) (X : BoxV) (w : World) (h : BoxIn w base b v X) (hc : Box w cb #[z]) :
    Calls Try.prog 24 #[.pointer (some ⟨b, 0, none⟩), .pointer (some ⟨cb, 0, none⟩)] w fun e w' => e = .returned (.int .i64 0) ∧ w' = w.setCell ⟨cb, 0, none⟩ (.int .u64 X.given) := by
  have k0 : w.cell? ⟨b, 1, none⟩ = some (.int .u64 X.given) := h.cells.cell 1 rfl
  have c0 := hc.cell 0 rfl
  have f0 := hc.free 0
  clear h hc
  go_enter Try.func24, Try.ntmps24
  go_wp2
  go_ret
  exact ⟨rfl, rfl⟩
theorem last1_any (base b cb : Nat) (v z : Value) (X : BoxV) (w : World) (h : BoxIn w base b v X) (hc : Box w cb #[z]) :
    Calls Try.prog 21 #[.pointer (some ⟨b, 0, none⟩), .pointer (some ⟨cb, 0, none⟩)] w fun e w' => e = .returned (.int .i64 0) ∧ w' = w.setCell ⟨cb, 0, none⟩ (.int .u64 X.last) := by
  have k0 : w.cell? ⟨b, 2, none⟩ = some (.int .u64 X.last) := h.cells.cell 2 rfl
  have c0 := hc.cell 0 rfl
  have f0 := hc.free 0
  clear h hc
  go_enter Try.func21, Try.ntmps21
  go_wp2
  go_ret
  exact ⟨rfl, rfl⟩
set_option maxRecDepth 100000 in
set_option maxHeartbeats 4000000 in
theorem took1_any (base b cb : Nat) (v : Value) (X : BoxV) (k : Int) (w : World) (h : BoxIn w base b v X) (ok : BoxOk X) (hc : Box w cb #[.int .u64 k]) (k0 : 0 ≤ k) (k1 : k ≤ 18446744073709551615) :
    Calls Try.prog 20 #[.pointer (some ⟨b, 0, none⟩), .pointer (some ⟨cb, 0, none⟩)] w (BoxDid w base b v (tookX X k)) := by
  have c2 : w.cell? ⟨b, 2, none⟩ = some (.int .u64 X.last) := h.cells.cell 2 rfl
  have f2 := h.cells.free 2
  have c0 : w.cell? ⟨cb, 0, none⟩ = some (.int .u64 k) := hc.cell 0 rfl
  have HB := hid h
  have l0 := ok.l0
  have l1 := ok.l1
  clear h ok hc
  by_cases h0 : k = 0
  · subst h0
    have HX := hid (show tookX X 0 = (6, X) by unfold tookX; rw [if_pos (.inl rfl)])
    go_enter Try.func20, Try.ntmps20
    go_upto_region 1 with fail
    go_quiet (fail)
    go_wp2
    go_ret
    rw [HX.out]
    exact ⟨rfl, _, HB.out.kept (drewN_below _ _), .inl rfl, fr_below _ (drewN_below _ _)⟩
  have q0 : (k == 0) = false := by simpa using h0
  have k2 : 1 ≤ k := by omega
  have hw : IntKind.u64.wrap (k - 1) = k - 1 := by rw [IntKind.wrap_u64]; omega
  by_cases h1 : k - 1 = X.last
  · have HX := hid (show tookX X k = (0, ⟨X.wait, X.given, k⟩) by unfold tookX; rw [if_neg (by rintro (h | h) <;> omega)])
    have q1 : (IntKind.u64.wrap (k - 1) != X.last) = false := by rw [hw, h1]; simp
    clear h1 h0 hw
    go_enter Try.func20, Try.ntmps20
    go_upto_region 1 with fail
    go_quiet (fail)
    go_wp2
    go_ret
    rw [HX.out]
    refine ⟨rfl, v, ⟨?_, ?_, HB.out.ne, HB.out.lo⟩, .inl rfl, (fr_below (boxFoot b v) (drewN_below w nq)).set b 2 _ (Or.inl rfl)⟩
    · exact (HB.out.cells.kept (drewN_below w nq)).set 2 _
    · refine (ownsRow_below HB.out.row (drewN_below w nq)).kept (grownBy_setCell' _ _ _ _) (.inr fun e => HB.out.ne _ e rfl)
  · have HX := hid (show tookX X k = (6, X) by unfold tookX; rw [if_pos (.inr h1)])
    have q1 : (IntKind.u64.wrap (k - 1) != X.last) = true := by rw [hw, bne_iff_ne]; exact h1
    clear h1 h0 hw
    go_enter Try.func20, Try.ntmps20
    go_upto_region 1 with fail
    go_quiet (fail)
    go_wp2
    go_ret
    rw [HX.out]
    exact ⟨rfl, _, HB.out.kept (drewN_below _ _), .inl rfl, fr_below _ (drewN_below _ _)⟩
set_option maxRecDepth 100000 in
set_option maxHeartbeats 1000000 in
theorem cloneMsg_any (l : List Msg) (a : Option Addr) (n cap : Nat) (w : World) (hn : l.length = n) (hc : a = none → cap = 0) (hr : Row w a (cellsL encMsg l)) (hl : n ≤ 1000) :
    Calls Try.prog 23 #[.slice a n cap] w fun e w' => ∃ v, e = .returned v ∧ w'.ownsRow w.heap.size 44 12 v n (cellsL encMsg l) ∧ Below w.heap.size w w' := by
  have HI := hid msgrow
  have hq := fun (w : World) (a : Option Addr) (n c : Nat) => Lib.run_eql_slice_nil (P := Try.prog) w 28 44 a n c 0 0 Try.underlying28
  cases a with
  | none =>
    have hn0 : l = [] := by
      rcases l with _ | ⟨x, r⟩
      · rfl
      · obtain ⟨b, off, h, _⟩ := hr 0 (by simp [cellsL, encMsg]); cases h
    subst hn0
    subst hn
    have hc0 := hc rfl
    subst hc0
    clear hr hc
    go_enter Try.func23, Try.ntmps23
    go_wp2
    go_ret
    exact ⟨_, rfl, World.ownsRow_nil _ _ _ _, Below.refl _ _⟩
  | some ad =>
    have Hr := hid hr
    have hn2 := hid hn
    clear hr hc hn
    have hlen : (cellsL encMsg l).length = n * 12 := by rw [cellsL_len encMsg_len, hn2.out]
    have HL := hid hlen
    clear hlen
    go_enter Try.func23, Try.ntmps23
    go_wp2_with (at_builtin; refine wpList_append_row_at rfl _ _ 28 rfl w.heap.size 44 _ 12 72 Try.underlying28 HI.out rfl (by decide) _ 0 [] rfl (World.ownsRow_lit (base := w.heap.size) (e := 44) (size := 12) w #[] 0 (Nat.le_refl _) (by unfold maxLen; omega) rfl) (some ad) n cap (cellsL encMsg l) rfl (by simp) (Hr.out.kept (below_alloc _ _)) HL.out (cellsL_one encMsg_one l) (by unfold maxLen; omega) (by omega) (by simp) ?_; intro v1 w3 ho1 hg1 hat1)
    have hg1' : (w.alloc (.cells #[] 44)).grownBy w3 (some w.heap.size) := hg1
    have ho1' : w3.ownsRow w.heap.size 44 12 v1 n (cellsL encMsg l) := by simpa using ho1
    have hb3 : Below w.heap.size w w3 := (below_alloc w _).grown hg1' (by simp) (fun g e => by cases e; exact Nat.le_refl _)
    clear hg1 hg1' hat1 ho1
    go_wp2
    go_ret
    exact ⟨_, rfl, ho1', hb3⟩
end Go.Proofs.Ytfnneghddndeiaa
