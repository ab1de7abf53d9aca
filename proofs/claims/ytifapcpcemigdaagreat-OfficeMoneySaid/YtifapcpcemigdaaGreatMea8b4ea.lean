/- Of4, Of5, Of6, EbP1. -/
import Derived.Test.YtifapcpcemigdaaGreatMf0575b6
set_option maxRecDepth 100000
set_option linter.unusedVariables false
set_option linter.unusedSimpArgs false
set_option linter.unusedSectionVars false
section
namespace Go.Proofs.YtifapcpcemigdaaGreat
open Go.RowKit Go.Lib Go.Tk Go.Shelf Go.Vc Go.Sx
def HalfF : Nat := 50
def AlwaysF : Nat := 59
def OutF : Nat := 52
def halfRd : Heap := [((0, 5), .box none [.ptr 0 0 0]), ((0, 6), .box none [.ptr 0 4 0])]
def halfFn : SV := .fn (.func HalfF) [] [.ptr 0 5 0, .ptr 0 6 0]
def aheadH (A : BookV) : Heap := [((0, 4), .fam (bookF A))]
theorem half_w (O : OffV) {A : BookV} {x : OutV} (hd : 0 ≤ x.dst ∧ x.dst ≤ 255) (h1 : A.owns.length ≤ 1000) (h2 : A.helds.length ≤ 1000) : CallOK Tryz.prog HalfF [.agg (outS x), .ptr 0 5 0, .ptr 0 6 0] halfRd (offH O ++ aheadH A) (.val (.bool (halfB A O.p x))) (offH O ++ aheadH A) := by
  have c1 := len_c O.p x.dst hd.1 hd.2
  have c2 := open_c A x.dst h1 h2
  unfold halfB asksB
  rcases Bool.eq_false_or_eq_true (decide (lenP O.p x.dst < 16)) with e1 | e1 <;> rcases Bool.eq_false_or_eq_true (decide (x.m.kind = 1)) with e2 | e2 <;> rcases Bool.eq_false_or_eq_true (decide (x.m.kind = 4)) with e3 | e3 <;> rcases Bool.eq_false_or_eq_true (decide (x.m.kind = 6)) with e4 | e4 <;> simp only [e1, e2, e3, e4] <;> exact callOK_run 400 [hB 2 1 _ _ e2, hB 2 4 _ _ e3, hB 2 8 _ _ e4, hC 3 6 c1, hB 3 7 _ _ e1, hC 3 15 c2] (by kernel_rfl) (by kernel_rfl)
theorem always_w (x : OutV) : CallOK Tryz.prog AlwaysF [.agg (outS x)] [] [] (.val (.bool true)) [] := callOK_run 400 [] (by kernel_rfl) (by kernel_rfl)
structure OutOk (P : PostV) (x : OutV) : Prop where
  dst : 0 ≤ x.dst ∧ x.dst ≤ 255
  hg : P.other x.dst = true → (P.box x.dst.toNat).given < 4294967296
theorem out_rd {rd : Heap} (x : OutV) : ∀ ε : Env, hden ε (((0, 7), outsR [x]) :: rd) = hden ε (((0, 7), outsC [x]) :: rd) := fun ε => by
  simp only [hden, List.map_cons, outs_den]
def offP (O : OffV) (P : PostV) : OffV := ⟨O.b, P⟩
theorem outH_one (O : OffV) {A : BookV} {x : OutV} (h1 : A.owns.length ≤ 1000) (h2 : A.helds.length ≤ 1000) (hx : OutOk O.p x) : CallOK Tryz.prog OutF [.ptr 0 0 0, .raw 0 7, halfFn] (((0, 7), outsR [x]) :: halfRd) (offH O ++ aheadH A) (eN (outQ (halfB A) O.p [x]).1) (offH (offP O (outQ (halfB A) O.p [x]).2) ++ aheadH A) := by
  have c1 := half_w O (A := A) hx.dst h1 h2
  have c2 := push_c O.p x.dst (toMsg x.m) hx.dst.1 hx.dst.2 hx.hg
  unfold outQ pushQ
  rcases Bool.eq_false_or_eq_true (halfB A O.p x) with e1 | e1
  · have g1 : (!halfB A O.p x) = false := by rw [e1]; rfl
    simp only [e1]
    generalize doP (fun X => pushX X (toMsg x.m)) O.p x.dst = r at c2
    obtain ⟨e, P⟩ := r
    rcases Bool.eq_false_or_eq_true (decide (e = 0)) with e2 | e2
    · have g2 : (!decide (e = 0)) = false := by rw [e2]; rfl
      have e3 := of_decide_eq_true e2
      subst e3
      exact callOK_runU 400 [hC 4 2 c1, hB 4 2 _ _ e1, hC 6 8 c2] (by kernel_rfl) (by kernel_rfl)
    · have g2 : (!decide (e = 0)) = true := by rw [e2]; rfl
      exact callOK_runU 400 [hC 4 2 c1, hB 4 2 _ _ e1, hC 6 8 c2, hB 7 1 _ _ g2] (by kernel_rfl) (by kernel_rfl)
  · have g1 : (!halfB A O.p x) = true := by rw [e1]; rfl
    simp only [e1]
    exact callOK_runU 400 [hC 4 2 c1, hB 4 2 _ _ e1] (by kernel_rfl) (by kernel_rfl)
theorem outH_nil (O : OffV) (A : BookV) : CallOK Tryz.prog OutF [.ptr 0 0 0, .raw 0 7, halfFn] (((0, 7), outsC []) :: halfRd) (offH O ++ aheadH A) (eN (outQ (halfB A) O.p []).1) (offH (offP O (outQ (halfB A) O.p []).2) ++ aheadH A) := callOK_runU 400 [] (by kernel_rfl) (by kernel_rfl)
theorem outH_w (O : OffV) {A : BookV} {l : List OutV} (hl : l.length ≤ 1) (h1 : A.owns.length ≤ 1000) (h2 : A.helds.length ≤ 1000) (hx : ∀ x ∈ l, OutOk O.p x) : CallOK Tryz.prog OutF [.ptr 0 0 0, .raw 0 7, halfFn] (((0, 7), outsC l) :: halfRd) (offH O ++ aheadH A) (eN (outQ (halfB A) O.p l).1) (offH (offP O (outQ (halfB A) O.p l).2) ++ aheadH A) := by
  rcases l with _ | ⟨x, _ | ⟨y, l⟩⟩
  · exact outH_nil O A
  · exact callOK_rd (out_rd x) (outH_one O h1 h2 (hx x List.mem_cons_self))
  · simp at hl
theorem outA_one (O : OffV) {x : OutV} (hx : OutOk O.p x) : CallOK Tryz.prog OutF [.ptr 0 0 0, .raw 0 7, fnS AlwaysF] [((0, 7), outsR [x])] (offH O) (eN (outQ (fun _ _ => true) O.p [x]).1) (offH (offP O (outQ (fun _ _ => true) O.p [x]).2)) := by
  have c1 := always_w x
  have c2 := push_c O.p x.dst (toMsg x.m) hx.dst.1 hx.dst.2 hx.hg
  unfold outQ pushQ
  show CallOK _ _ _ _ _ (eN (doP (fun X => pushX X (toMsg x.m)) O.p x.dst).1) (offH (offP O (doP (fun X => pushX X (toMsg x.m)) O.p x.dst).2))
  generalize doP (fun X => pushX X (toMsg x.m)) O.p x.dst = r at c2
  obtain ⟨e, P⟩ := r
  rcases Bool.eq_false_or_eq_true (decide (e = 0)) with e2 | e2
  · have g2 : (!decide (e = 0)) = false := by rw [e2]; rfl
    have e3 := of_decide_eq_true e2
    subst e3
    exact callOK_runU 400 [hC 4 2 c1, hC 6 8 c2] (by kernel_rfl) (by kernel_rfl)
  · have g2 : (!decide (e = 0)) = true := by rw [e2]; rfl
    exact callOK_runU 400 [hC 4 2 c1, hC 6 8 c2, hB 7 1 _ _ g2] (by kernel_rfl) (by kernel_rfl)
theorem outA_nil (O : OffV) : CallOK Tryz.prog OutF [.ptr 0 0 0, .raw 0 7, fnS AlwaysF] [((0, 7), outsC [])] (offH O) (eN (outQ (fun _ _ => true) O.p []).1) (offH (offP O (outQ (fun _ _ => true) O.p []).2)) := callOK_runU 400 [] (by kernel_rfl) (by kernel_rfl)
theorem outA_w (O : OffV) {l : List OutV} (hl : l.length ≤ 1) (hx : ∀ x ∈ l, OutOk O.p x) : CallOK Tryz.prog OutF [.ptr 0 0 0, .raw 0 7, fnS AlwaysF] [((0, 7), outsC l)] (offH O) (eN (outQ (fun _ _ => true) O.p l).1) (offH (offP O (outQ (fun _ _ => true) O.p l).2)) := by
  rcases l with _ | ⟨x, _ | ⟨y, l⟩⟩
  · exact outA_nil O
  · exact callOK_rd (out_rd x) (outA_one O (hx x List.mem_cons_self))
  · simp at hl
end Go.Proofs.YtifapcpcemigdaaGreat
end
section
namespace Go.Proofs.YtifapcpcemigdaaGreat
open Go.RowKit Go.Lib Go.Tk Go.Shelf Go.Vc Go.Sx
def CommandF : Nat := 25
def coF (k : Int) : Nat := if k = 13 then Do6F else if k ≤ 8 then Do21F else Do1F
def coB (k : Int) : Nat := if k = 6 then WantF else if k = 7 then ReturnF else RecallF
def coFr (k : Int) : List SV := if k ≤ 8 then [.ptr 0 4 0] else []
def coRd (k : Int) : Heap := if k ≤ 8 then fnB (coB k) else []
def tiF (k : Int) : Nat := if k = 1 then Do4F else if k = 5 then Do5F else Do31F
def tiB (k : Int) : Nat := if k = 2 then DisplayF else if k = 3 then VoidF else RefundF
def tiFr (k : Int) : List SV := if 2 ≤ k ∧ k ≤ 4 then [.ptr 0 4 0] else []
def tiRd (F : CF) (k : Int) : Heap := if 2 ≤ k ∧ k ≤ 4 then fnB (tiB k) else [((0, 9), .fam F)]
abbrev ComK (F : CF) (O : OffV) (A : BookV) (c : CmdO) (S : SaleA) (r : TR) : Prop := CallOK Tryz.prog CommandF [.ptr 0 0 0, .agg (cmdOS c S), .ptr 0 4 0] [((0, 9), .fam F)] (offH O ++ aheadH A) (.tup [.agg (repS r.cd r.t r.amt (.raw 1 0)), eN r.e]) (offH r.o ++ aheadH A ++ [((1, 0), stC r.st)])
theorem com_coup (F : CF) (O : OffV) {A : BookV} {c : CmdO} (S : SaleA) (hk : 6 ≤ c.kind ∧ c.kind ≤ 13) {q : HR} (cq : CoupK (coF c.kind) (coFr c.kind) (coRd c.kind) O.b c.k c S q) (hq : q.out.length ≤ 1) (h1 : A.owns.length ≤ 1000) (h2 : A.helds.length ≤ 1000) (hx : ∀ x ∈ q.out, OutOk O.p x) : ComK F O A c S (cmdCQ O.p A c.t q) := by
  have co := outH_w ⟨q.b, O.p⟩ (A := A) hq h1 h2 hx
  have cd := doings_w
  obtain ⟨kind, t, i, s, amt⟩ := c
  obtain ⟨out, e, b⟩ := q
  unfold cmdCQ
  dsimp only at hk co ⊢
  unfold CoupK at cq
  rcases Bool.eq_false_or_eq_true (decide (e = 0)) with g | g
  · have g2 : (!decide (e = 0)) = false := by rw [g]; rfl
    have e3 := of_decide_eq_true g
    subst e3
    simp only [g]
    rcases (show kind = 6 ∨ kind = 7 ∨ kind = 8 ∨ kind = 9 ∨ kind = 10 ∨ kind = 11 ∨ kind = 12 ∨ kind = 13 by omega) with rfl | rfl | rfl | rfl | rfl | rfl | rfl | rfl <;> exact callOK_run 600 [hC 1 0 cd, hC 6 12 cq, hC 10 6 co] (by kernel_rfl) (by kernel_rfl)
  · have g2 : (!decide (e = 0)) = true := by rw [g]; rfl
    simp only [g]
    rcases (show kind = 6 ∨ kind = 7 ∨ kind = 8 ∨ kind = 9 ∨ kind = 10 ∨ kind = 11 ∨ kind = 12 ∨ kind = 13 by omega) with rfl | rfl | rfl | rfl | rfl | rfl | rfl | rfl <;> exact callOK_run 600 [hC 1 0 cd, hC 6 12 cq, hB 7 1 _ _ g2] (by kernel_rfl) (by kernel_rfl)
theorem com_tic (F : CF) (O : OffV) {A : BookV} {c : CmdO} (S : SaleA) (hk : 1 ≤ c.kind ∧ c.kind ≤ 5) {q : XR} (cq : TicK (tiF c.kind) (tiFr c.kind) (tiRd F c.kind) O.b c S q) : ComK F O A c S (cmdTQ O.p q) := by
  have cd := doings_w
  obtain ⟨kind, t, i, s, amt⟩ := c
  obtain ⟨e, t', amt', st, b⟩ := q
  unfold cmdTQ
  dsimp only at hk ⊢
  unfold TicK at cq
  rcases (show kind = 1 ∨ kind = 2 ∨ kind = 3 ∨ kind = 4 ∨ kind = 5 by omega) with rfl | rfl | rfl | rfl | rfl <;> exact callOK_run 600 [hC 1 0 cd, hC 5 7 cq] (by kernel_rfl) (by kernel_rfl)
noncomputable local instance instDecValueO5 : DecidableEq Value := Classical.typeDecidableEq Value
def envF (es : Ents) : Nat → Value → Chunk := fun b _ => ⟨fun S w => ∃ ε, (objM b (entsDen ε es)).at_ S w, fun hk hi ⟨ε, h⟩ => ⟨ε, (objM b _).stable hk hi h⟩⟩
theorem look_missE (j : Nat) {P : Program} {t kt e : TypeId} {c : Bool} {es : Ents} {k : IntKind} {x : Int} {z : Value} {ret : SV} (hT : P.underlying t = some (.map kt e)) (hkb : keyB P kt = true) (hes : keysOK P kt es = true) (hx : ∃ l, keyOf P kt (.int k x) = some l) (hz : ∀ w, (zeroValue e).run P w = .ok z w)
    (hno : ∀ q ∈ es, q.1 ≠ .int k x) (hr : ∀ ε, ret.den ε = if c then .tuple #[z, .bool false] else z) :
    OpG P (isLk t c) lkXY [.map 0 j, .val (.int k x)] [((0, j), .fam (envF es))] [] ret [] := by
  have K := keyB_ok hkb
  intro o ho
  obtain ⟨a, b, ho, hxy⟩ := isLk_of ho
  rw [hxy]
  refine ⟨fun q hq => by rw [ho]; simpa [Op.operands] using hq, fun ε ρ R w hxx hM => ?_⟩
  simp only [List.map_cons, List.map_nil, SV.dens, SV.den, List.cons.injEq, and_true] at hxx
  obtain ⟨h1, h2⟩ := hxx
  have hM : Mem (envF es (ε 0 j).1 (ε 0 j).2 :: R) w := hM
  obtain ⟨ε0, hm⟩ := hM.of 0 rfl (φ := ∃ ε0, MapAt (KV kt K) w (ε 0 j).1 (entsDen ε0 es)) (fun S ⟨ε0, hS⟩ => ⟨ε0, objM_map K hes hS⟩)
  have hrun := hm.lookup (w := w) hT hz (x := (.int k x)) hx c
  have hl : lk (entsDen ε0 es) (.int k x) = none := by
    rw [lk_none]
    intro p hp
    obtain ⟨q, hq, rfl⟩ := List.mem_map.1 hp
    exact hno q hq
  rw [hl] at hrun
  have hrun : (Instr.lookup t (.map (some (ε 0 j).1)) (.int k x) c).run P w = .ok (if c then .tuple #[z, .bool false] else z) w := hrun
  have hE : (execOp ρ o).run P w = .ok (.value (ret.den ε)) w := by
    unfold execOp; rw [ho]
    simp only [h1, h2]
    rw [hr ε]
    simp [hrun, go_sem]
  exact res_ok hE ⟨ε 1, by rw [eset_self], by rw [eset_self]; exact hM⟩
def DoT : TypeId := 129
theorem doings_e : CallOK Tryz.prog DoingsF [] [] [] (.map 1 0) [((1, 0), .fam (envF doEs))] := doings_w.post_mono fun ε R w hM => by
  have h1 : Mem (objM (ε 1 0).1 (entsDen ε doEs) :: (hden ε (doH.drop 1) ++ R)) w := hM
  have h2 : Mem (envF doEs (ε 1 0).1 (ε 1 0).2 :: (hden ε (doH.drop 1) ++ R)) w := h1.weaken fun S hS => ⟨ε, hS⟩
  have h3 : Mem (hden ε (doH.drop 1) ++ (envF doEs (ε 1 0).1 (ε 1 0).2 :: R)) w := mem_perm List.perm_middle.symm h2
  exact mem_app h3
theorem com_bad (F : CF) (O : OffV) {A : BookV} {c : CmdO} (S : SaleA) (h0 : 0 ≤ c.kind ∧ c.kind ≤ 255) (hk : c.kind < 1 ∨ 13 < c.kind) : ComK F O A c S ⟨1, 0, tid0, 0, [], O⟩ := by
  have cd := doings_e
  obtain ⟨kind, t, i, s, amt⟩ := c
  dsimp only at h0 hk
  have l1 := look_missE 0 (P := Tryz.prog) (t := DoT) (c := true) (es := doEs) (k := .u8) (x := kind) (ret := .tup [.agg [nilF, nilF], .val (.bool false)]) (z := .agg #[.nilFunc, .nilFunc]) Tryz.underlying129 (by kernel_rfl) (by kernel_rfl) (keyOf_u8 h0) (fun w => still_run (by kernel_rfl) w)
    (fun q hq e => by
      unfold doEs at hq
      simp only [List.mem_cons, List.not_mem_nil, or_false] at hq
      rcases hq with rfl | rfl | rfl | rfl | rfl | rfl | rfl | rfl | rfl | rfl | rfl | rfl | rfl <;> (cases e; omega))
    (fun _ => rfl)
  exact callOK_run 600 [hC 1 0 cd, hG 1 3 l1] (by kernel_rfl) (by kernel_rfl)
end Go.Proofs.YtifapcpcemigdaaGreat
end
section
namespace Go.Proofs.YtifapcpcemigdaaGreat
open Go.RowKit Go.Lib Go.Tk Go.Shelf Go.Vc Go.Sx
def PacketF : Nat := 26
def MineF : Nat := 57
def recS (r : RecO) (S : SaleA) : List SV := .val (.int .u8 r.kind) :: (cmdOS r.cmd S ++ (.val (.int .u8 r.src) :: .val (.int .u64 r.num) :: msS r.m))
structure RecOk (r : RecO) : Prop where
  kind : 0 ≤ r.kind ∧ r.kind ≤ 255
  src : 0 ≤ r.src ∧ r.src ≤ 255
  num : 0 ≤ r.num ∧ r.num ≤ 18446744073709551615
  mkd : 0 ≤ r.m.kind ∧ r.m.kind ≤ 255
  key : KidOk r.m.key
theorem mine_w (k : Int) : CallOK Tryz.prog MineF [.val (.int .u8 k)] [] [] (.val (.bool (mineB k))) [] := by
  unfold mineB
  rcases Bool.eq_false_or_eq_true (decide (6 ≤ k)) with e1 | e1 <;> rcases Bool.eq_false_or_eq_true (decide (k ≤ 8)) with e2 | e2 <;> simp only [e1, e2] <;> exact callOK_run 400 [hB 1 1 _ _ e1, hB 1 4 _ _ e2] (by kernel_rfl) (by kernel_rfl)
theorem pack_w (O : OffV) {r : RecO} (S : SaleA) (h : RecOk r) (hq : (hearO O.b r.src r.m).out.length ≤ 1) (hx : ∀ x ∈ (hearO O.b r.src r.m).out, OutOk (tookQ O.p r).2 x) : CallOK Tryz.prog PacketF [.ptr 0 0 0, .agg (recS r S)] [] (offH O) (eN (packQ O r).1) (offH (packQ O r).2) := by
  have c1 := self_c O.b
  have c2 := carr_c O.b
  have w1 : IntKind.i64.wrap r.src = r.src := by have := h.src; exact wr_i64 (by omega)
  have c3 := took_c O.p r.src r.num h.src.1 h.src.2 h.num.1 h.num.2
  have c4 := mine_w r.m.kind
  have c5 := hear_c O.b h.src r.m h.mkd h.key
  have c6 := hearB_c O.b h.src r.m h.mkd h.key
  unfold packQ packHQ
  rcases Bool.eq_false_or_eq_true (decide (r.src = O.b.self)) with e1 | e1
  · simp only [e1]
    exact callOK_run 400 [hC 1 6 c1, hB 1 7 _ _ e1] (by kernel_rfl) (by kernel_rfl)
  rcases Bool.eq_false_or_eq_true (decide (O.b.n ≤ r.src)) with e2 | e2
  · simp only [e1, e2]
    exact callOK_run 400 [hC 1 6 c1, hB 1 7 _ _ e1, hI 1 11 IntKind.i64 _ _ w1, hC 1 16 c2, hB 1 17 _ _ e2] (by kernel_rfl) (by kernel_rfl)
  simp only [e1, e2]
  change CallOK _ _ _ _ _ (.val (.int .i64 (tookQ O.p r).1)) [((0, 0), .fam (postF (tookQ O.p r).2))] at c3
  generalize tookQ O.p r = tk at c3 hx ⊢
  obtain ⟨te, tp⟩ := tk
  rcases Bool.eq_false_or_eq_true (decide (te = 0)) with e3 | e3
  · have g3 : (!decide (te = 0)) = false := by rw [e3]; rfl
    have z3 := of_decide_eq_true e3
    subst z3
    have c7 := outA_w ⟨(hearO O.b r.src r.m).b, tp⟩ hq hx
    unfold hearO at c7 hq ⊢
    rcases Bool.eq_false_or_eq_true (mineB r.m.kind) with e4 | e4
    · simp only [e4, cond_true] at c7 ⊢
      generalize hearBQ O.b r.src r.m = q at c6 c7 ⊢
      obtain ⟨out, e, b⟩ := q
      rcases Bool.eq_false_or_eq_true (decide (e = 0)) with e5 | e5
      · have g5 : (!decide (e = 0)) = false := by rw [e5]; rfl
        simp only [e5]
        exact callOK_run 400 [hC 1 6 c1, hB 1 7 _ _ e1, hI 1 11 IntKind.i64 _ _ w1, hC 1 16 c2, hB 1 17 _ _ e2, hC 3 8 c3, hC 7 3 c4, hB 7 3 _ _ e4, hC 9 9 c6, hB 10 1 _ _ g5, hC 12 2 c7] (by kernel_rfl) (by kernel_rfl)
      · have g5 : (!decide (e = 0)) = true := by rw [e5]; rfl
        simp only [e5]
        exact callOK_run 400 [hC 1 6 c1, hB 1 7 _ _ e1, hI 1 11 IntKind.i64 _ _ w1, hC 1 16 c2, hB 1 17 _ _ e2, hC 3 8 c3, hC 7 3 c4, hB 7 3 _ _ e4, hC 9 9 c6, hB 10 1 _ _ g5] (by kernel_rfl) (by kernel_rfl)
    · simp only [e4, cond_false] at c7 ⊢
      generalize hearQ O.b r.src r.m = q at c5 c7 ⊢
      obtain ⟨out, e, b⟩ := q
      rcases Bool.eq_false_or_eq_true (decide (e = 0)) with e5 | e5
      · have g5 : (!decide (e = 0)) = false := by rw [e5]; rfl
        simp only [e5]
        exact callOK_run 400 [hC 1 6 c1, hB 1 7 _ _ e1, hI 1 11 IntKind.i64 _ _ w1, hC 1 16 c2, hB 1 17 _ _ e2, hC 3 8 c3, hC 7 3 c4, hB 7 3 _ _ e4, hC 9 9 c5, hB 10 1 _ _ g5, hC 12 2 c7] (by kernel_rfl) (by kernel_rfl)
      · have g5 : (!decide (e = 0)) = true := by rw [e5]; rfl
        simp only [e5]
        exact callOK_run 400 [hC 1 6 c1, hB 1 7 _ _ e1, hI 1 11 IntKind.i64 _ _ w1, hC 1 16 c2, hB 1 17 _ _ e2, hC 3 8 c3, hC 7 3 c4, hB 7 3 _ _ e4, hC 9 9 c5, hB 10 1 _ _ g5] (by kernel_rfl) (by kernel_rfl)
  · have g3 : (!decide (te = 0)) = true := by rw [e3]; rfl
    simp only [e3]
    exact callOK_run 400 [hC 1 6 c1, hB 1 7 _ _ e1, hI 1 11 IntKind.i64 _ _ w1, hC 1 16 c2, hB 1 17 _ _ e2, hC 3 8 c3, hB 4 1 _ _ g3] (by kernel_rfl) (by kernel_rfl)
def tryV (q : TR) : SV := bif decide (q.e = 0) then .tup [.ptr 1 0 0, .agg (repS 0 q.t q.amt (.raw 1 3)), eN 0] else .tup [nilPO, .agg (repS q.e tid0 0 nilS), eN q.e]
def tryP (O : OffV) (q : TR) : Heap := offH O ++ bif decide (q.e = 0) then offA 1 0 q.o ++ [((1, 3), stC q.st)] else []
theorem try_e {O : OffV} {q : TR} (h : q.e = 0) : tryV q = .tup [.ptr 1 0 0, .agg (repS 0 q.t q.amt (.raw 1 3)), eN 0] ∧ tryP O q = offH O ++ (offA 1 0 q.o ++ [((1, 3), stC q.st)]) := by
  unfold tryV tryP; rw [decide_eq_true h]; exact ⟨rfl, rfl⟩
theorem try_n {O : OffV} {q : TR} (h : q.e ≠ 0) : tryV q = .tup [nilPO, .agg (repS q.e tid0 0 nilS), eN q.e] ∧ tryP O q = offH O ++ [] := by
  unfold tryV tryP; rw [decide_eq_false h]; exact ⟨rfl, rfl⟩
abbrev TryK (F : CF) (O : OffV) (r : RecO) (S : SaleA) (q : TR) : Prop := CallOK Tryz.prog OffTryF [.ptr 0 0 0, .agg (recS r S)] [((0, 9), .fam F)] (offH O) (tryV q) (tryP O q)
theorem try_1 (F : CF) {O : OffV} (ok : OffOk O) {c : CmdO} {src num : Int} {m : MsV} (S : SaleA) {q : TR} (hcd : q.e = 0 → q.cd = 0) (cm : ComK F O O.b c S q) : TryK F O ⟨1, c, src, num, m⟩ S q := by
  have c1 := offClone_w ok
  unfold ComK at cm
  unfold TryK
  obtain ⟨e, cd, t, amt, st, o⟩ := q
  rcases Bool.eq_false_or_eq_true (decide (e = 0)) with e1 | e1
  · have g1 : (!decide (e = 0)) = false := by rw [e1]; rfl
    have z1 := of_decide_eq_true e1
    rw [(try_e (O := O) z1).1, (try_e z1).2]
    subst z1
    have z2 : cd = 0 := hcd rfl
    subst z2
    exact callOK_run 400 [hC 3 1 c1, hC 8 7 cm] (by kernel_rfl) (by kernel_rfl)
  · have g1 : (!decide (e = 0)) = true := by rw [e1]; rfl
    have z1 : e ≠ 0 := of_decide_eq_false e1
    rw [(try_n (O := O) z1).1, (try_n z1).2]
    exact callOK_run 400 [hC 3 1 c1, hC 8 7 cm, hB 13 1 _ _ g1] (by kernel_rfl) (by kernel_rfl)
theorem try_2 (F : CF) {O : OffV} (ok : OffOk O) {c : CmdO} {src num : Int} {m : MsV} (S : SaleA) {q : Int × OffV} (cm : CallOK Tryz.prog PacketF [.ptr 0 0 0, .agg (recS ⟨2, c, src, num, m⟩ S)] [] (offH O) (eN q.1) (offH q.2)) : TryK F O ⟨2, c, src, num, m⟩ S (noTR q) := by
  have c1 := offClone_w ok
  unfold TryK noTR
  obtain ⟨e, o⟩ := q
  rcases Bool.eq_false_or_eq_true (decide (e = 0)) with e1 | e1
  · have g1 : (!decide (e = 0)) = false := by rw [e1]; rfl
    have z1 : e = 0 := of_decide_eq_true e1
    subst z1
    exact callOK_run 400 [hC 3 1 c1, hC 10 2 cm] (by kernel_rfl) (by kernel_rfl)
  · have g1 : (!decide (e = 0)) = true := by rw [e1]; rfl
    have z1 : e ≠ 0 := of_decide_eq_false e1
    unfold tryV tryP
    simp only [e1]
    exact callOK_run 400 [hC 3 1 c1, hC 10 2 cm, hB 13 1 _ _ g1] (by kernel_rfl) (by kernel_rfl)
theorem try_3 (F : CF) {O : OffV} (ok : OffOk O) {c : CmdO} {src num : Int} {m : MsV} (S : SaleA) (h1 : 0 ≤ src ∧ src ≤ 255) (h2 : 0 ≤ num ∧ num ≤ 18446744073709551615) : TryK F O ⟨3, c, src, num, m⟩ S (noTR (ackQ O ⟨3, c, src, num, m⟩)) := by
  have c1 := offClone_w ok
  have c2 := ack_c O.p src num h1.1 h1.2 h2.1 h2.2
  unfold TryK noTR ackQ
  dsimp only
  generalize doP (fun X => ackX X num) O.p src = q at c2
  obtain ⟨e, P⟩ := q
  rcases Bool.eq_false_or_eq_true (decide (e = 0)) with e1 | e1
  · have g1 : (!decide (e = 0)) = false := by rw [e1]; rfl
    have z1 : e = 0 := of_decide_eq_true e1
    subst z1
    exact callOK_run 400 [hC 3 1 c1, hC 12 8 c2] (by kernel_rfl) (by kernel_rfl)
  · have g1 : (!decide (e = 0)) = true := by rw [e1]; rfl
    unfold tryV tryP
    simp only [e1]
    exact callOK_run 400 [hC 3 1 c1, hC 12 8 c2, hB 13 1 _ _ g1] (by kernel_rfl) (by kernel_rfl)
theorem try_0 (F : CF) {O : OffV} (ok : OffOk O) {r : RecO} (S : SaleA) (h0 : r.kind ≠ 1) (h2 : r.kind ≠ 2) (h3 : r.kind ≠ 3) : TryK F O r S ⟨1, 0, tid0, 0, [], O⟩ := by
  have c1 := offClone_w ok
  have e1 : decide (r.kind = 1) = false := decide_eq_false h0
  have e2 : decide (r.kind = 2) = false := decide_eq_false h2
  have e3 : decide (r.kind = 3) = false := decide_eq_false h3
  exact callOK_run 400 [hC 3 1 c1, hB 7 0 _ _ e1, hB 9 0 _ _ e2, hB 11 0 _ _ e3] (by kernel_rfl) (by kernel_rfl)
end Go.Proofs.YtifapcpcemigdaaGreat
end
section
namespace Go.Proofs.YtifapcpcemigdaaGreat
open Go.RowKit Go.Lib Go.Tk Go.Shelf Go.Vc Go.Sx
theorem coupL_get {B : BookV} {t : Tid} {i : Nat} (h : i < (coupL B t).length) : lkt B.owns ⟨t, (i : Int)⟩ = some ((coupL B t).getD i own0) := by
  rcases coupL_cases B t with ⟨e, h0⟩ | ⟨a, e, h0, h1⟩ | ⟨a, b, e, h0, h1, h2⟩ | ⟨a, b, c, e, h0, h1, h2, h3⟩ | ⟨a, b, c, d, e, h0, h1, h2, h3⟩ <;> rw [e] at h ⊢ <;> simp only [List.length_cons, List.length_nil] at h
  · omega
  · obtain rfl : i = 0 := by omega
    exact h0
  · rcases (show i = 0 ∨ i = 1 by omega) with rfl | rfl
    · exact h0
    · exact h1
  · rcases (show i = 0 ∨ i = 1 ∨ i = 2 by omega) with rfl | rfl | rfl
    · exact h0
    · exact h1
    · exact h2
  · rcases (show i = 0 ∨ i = 1 ∨ i = 2 ∨ i = 3 by omega) with rfl | rfl | rfl | rfl
    · exact h0
    · exact h1
    · exact h2
    · exact h3
theorem coupL_end (B : BookV) (t : Tid) : (coupL B t).length = 4 ∨ lkt B.owns ⟨t, ((coupL B t).length : Int)⟩ = none := by
  rcases coupL_cases B t with ⟨e, h0⟩ | ⟨a, e, h0, h1⟩ | ⟨a, b, e, h0, h1, h2⟩ | ⟨a, b, c, e, h0, h1, h2, h3⟩ | ⟨a, b, c, d, e, h0, h1, h2, h3⟩ <;> rw [e]
  · exact .inr h0
  · exact .inr h1
  · exact .inr h2
  · exact .inr h3
  · exact .inl rfl
theorem coupL_of {B : BookV} {t : Tid} {L : List OwnV} (hl : L.length ≤ 4) (h : ∀ i, i < L.length → lkt B.owns ⟨t, (i : Int)⟩ = some (L.getD i own0)) (he : L.length = 4 ∨ lkt B.owns ⟨t, (L.length : Int)⟩ = none) : coupL B t = L := by
  match L, hl, h, he with
  | [], _, h, he =>
    have h0 : lkt B.owns ⟨t, 0⟩ = none := he.elim (fun e => by cases e) id
    unfold coupL; rw [h0]
  | [a], _, h, he =>
    have h0 : lkt B.owns ⟨t, 0⟩ = some a := h 0 (by simp)
    have h1 : lkt B.owns ⟨t, 1⟩ = none := he.elim (fun e => by cases e) id
    unfold coupL; rw [h0, h1]
  | [a, b], _, h, he =>
    have h0 : lkt B.owns ⟨t, 0⟩ = some a := h 0 (by simp)
    have h1 : lkt B.owns ⟨t, 1⟩ = some b := h 1 (by simp)
    have h2 : lkt B.owns ⟨t, 2⟩ = none := he.elim (fun e => by cases e) id
    unfold coupL; rw [h0, h1, h2]
  | [a, b, c], _, h, he =>
    have h0 : lkt B.owns ⟨t, 0⟩ = some a := h 0 (by simp)
    have h1 : lkt B.owns ⟨t, 1⟩ = some b := h 1 (by simp)
    have h2 : lkt B.owns ⟨t, 2⟩ = some c := h 2 (by simp)
    have h3 : lkt B.owns ⟨t, 3⟩ = none := he.elim (fun e => by cases e) id
    unfold coupL; rw [h0, h1, h2, h3]
  | [a, b, c, d], _, h, he =>
    have h0 : lkt B.owns ⟨t, 0⟩ = some a := h 0 (by simp)
    have h1 : lkt B.owns ⟨t, 1⟩ = some b := h 1 (by simp)
    have h2 : lkt B.owns ⟨t, 2⟩ = some c := h 2 (by simp)
    have h3 : lkt B.owns ⟨t, 3⟩ = some d := h 3 (by simp)
    unfold coupL; rw [h0, h1, h2, h3]
  | a :: b :: c :: d :: e :: l, hl, _, _ => simp at hl
theorem coupL_same {B C : BookV} {t : Tid} (h : ∀ i : Int, lkt C.owns ⟨t, i⟩ = lkt B.owns ⟨t, i⟩) : coupL C t = coupL B t := by
  unfold coupL; rw [h 0, h 1, h 2, h 3]
def turnO (s : Int) (o : OwnV) : OwnV := bif freeO o then asO o s else o
theorem turn1_at {B : BookV} {k : Kid} {o : OwnV} {s : Int} (h : lkt B.owns k = some o) : lkt (turn1 B k o s).owns k = some (turnO s o) := by
  unfold turn1 turnO
  cases freeO o
  · exact h
  · show lkt (B.setO k (asO o s)).owns k = _
    rw [setO_some h]
    show lkt (putt B.owns k _) k = _
    rw [lkt_put, if_pos rfl]; rfl
theorem turnL_other {s : Int} {t : Tid} {k : Kid} : ∀ (l : List OwnV) (B : BookV) (i : Int), (∀ j : Nat, j < l.length → k ≠ ⟨t, i + (j : Int)⟩) → lkt (turnL s t B i l).owns k = lkt B.owns k
  | [], _, _, _ => rfl
  | o :: l, B, i, h => by
    show lkt (turnL s t (turn1 B ⟨t, i⟩ o s) (i + 1) l).owns k = _
    rw [turnL_other l _ (i + 1) (fun j hj => by
      have := h (j + 1) (by simp only [List.length_cons]; omega)
      rwa [show i + 1 + (j : Int) = i + ((j + 1 : Nat) : Int) by omega])]
    exact lkt_turn1 (fun e => h 0 (by simp) (by rw [← e]; simp))
theorem turnL_at {s : Int} {t : Tid} : ∀ (l : List OwnV) (B : BookV) (i : Int), (∀ j : Nat, j < l.length → lkt B.owns ⟨t, i + (j : Int)⟩ = some (l.getD j own0)) → ∀ j : Nat, j < l.length → lkt (turnL s t B i l).owns ⟨t, i + (j : Int)⟩ = some (turnO s (l.getD j own0))
  | [], _, _, _, j, hj => absurd hj (Nat.not_lt_zero _)
  | o :: l, B, i, h, j, hj => by
    have h0 : lkt B.owns ⟨t, i⟩ = some o := by have := h 0 (by simp); simpa using this
    have hne : ∀ j : Nat, (⟨t, i⟩ : Kid) ≠ ⟨t, i + 1 + (j : Int)⟩ := fun j e => by injection e with _ e; omega
    show lkt (turnL s t (turn1 B ⟨t, i⟩ o s) (i + 1) l).owns _ = _
    cases j with
    | zero =>
      have := turnL_other (s := s) (t := t) (k := ⟨t, i⟩) l (turn1 B ⟨t, i⟩ o s) (i + 1) (fun j _ => hne j)
      rw [turn1_at h0] at this
      simpa using this
    | succ j =>
      have := turnL_at (s := s) (t := t) l (turn1 B ⟨t, i⟩ o s) (i + 1) (fun j hj => by
        rw [lkt_turn1 (hne j)]
        have := h (j + 1) (by simp only [List.length_cons]; omega)
        rw [show i + 1 + (j : Int) = i + ((j + 1 : Nat) : Int) by omega]
        simpa using this) j (by simpa using hj)
      rw [show i + ((j + 1 : Nat) : Int) = i + 1 + (j : Int) by omega]
      simpa using this
theorem turnB_at {B : BookV} {t : Tid} {s : Int} {i : Nat} (h : i < (coupL B t).length) : lkt (turnB B t s).owns ⟨t, (i : Int)⟩ = some (turnO s ((coupL B t).getD i own0)) := by
  have := turnL_at (s := s) (t := t) (coupL B t) B 0 (fun j hj => by rw [Int.zero_add]; exact coupL_get hj) i h
  rwa [Int.zero_add] at this
theorem turnB_other {B : BookV} {t : Tid} {s : Int} {k : Kid} (h : ∀ i : Nat, i < (coupL B t).length → k ≠ ⟨t, (i : Int)⟩) : lkt (turnB B t s).owns k = lkt B.owns k :=
  turnL_other (coupL B t) B 0 fun j hj => by rw [Int.zero_add]; exact h j hj
theorem coupL_turn (B : BookV) (t : Tid) (s : Int) : coupL (turnB B t s) t = (coupL B t).map (turnO s) := by
  refine coupL_of (by rw [List.length_map]; exact coupL_len B t) (fun i hi => ?_) ?_
  · rw [List.length_map] at hi
    rw [turnB_at hi]
    congr 1
    rw [List.getD_eq_getElem?_getD, List.getD_eq_getElem?_getD, List.getElem?_map, List.getElem?_eq_getElem hi]; rfl
  · rw [List.length_map]
    rcases coupL_end B t with h | h
    · exact .inl h
    · refine .inr ?_
      rw [turnB_other (fun i hi e => by injection e with _ e; omega)]; exact h
theorem coupL_turn_ne (B : BookV) {t t' : Tid} (s : Int) (h : t' ≠ t) : coupL (turnB B t s) t' = coupL B t' :=
  coupL_same fun i => turnB_other fun j _ e => h (by injection e)
def newL (s : SaleV) : List OwnV := (List.range (shareV s.fare (wsOf s)).length).map fun i => ownNew (s.legs.getD i leg0) ((shareV s.fare (wsOf s)).getD i 0)
theorem newL_len (s : SaleV) : (newL s).length = (shareV s.fare (wsOf s)).length := by unfold newL; simp
theorem newL_get {s : SaleV} {i : Nat} (h : i < (shareV s.fare (wsOf s)).length) : (newL s).getD i own0 = ownNew (s.legs.getD i leg0) ((shareV s.fare (wsOf s)).getD i 0) := by
  unfold newL
  rw [List.getD_eq_getElem?_getD, List.getElem?_map, List.getElem?_range h]; rfl
theorem newL_vals (s : SaleV) : (newL s).map (·.k.v) = shareV s.fare (wsOf s) := by
  refine List.ext_getElem? fun i => ?_
  by_cases h : i < (shareV s.fare (wsOf s)).length
  · unfold newL
    rw [List.map_map, List.getElem?_map, List.getElem?_range h]
    show some ((shareV s.fare (wsOf s)).getD i 0) = _
    rw [List.getD_eq_getElem?_getD, List.getElem?_eq_getElem h]; rfl
  · rw [List.getElem?_eq_none (by rw [List.length_map, newL_len]; omega), List.getElem?_eq_none (by omega)]
theorem coupL_issued {B : BookV} {s : SaleV} (hn : ∀ i : Int, lkt B.owns ⟨B.nextT, i⟩ = none) (hl : (shareV s.fare (wsOf s)).length ≤ 4) : coupL (B.issued s) B.nextT = newL s := by
  refine coupL_of (by rw [newL_len]; exact hl) (fun i hi => ?_) ?_
  · rw [newL_len] at hi
    show lkt (issO B.nextT s (shareV s.fare (wsOf s)) B.owns (shareV s.fare (wsOf s)).length) _ = _
    rcases issO_lk B.nextT s (shareV s.fare (wsOf s)) B.owns ⟨B.nextT, (i : Int)⟩ (shareV s.fare (wsOf s)).length with ⟨j, hj, e, h⟩ | ⟨h, -⟩
    · injection e with _ e
      have e : i = j := by omega
      subst e
      rw [h, newL_get hi]
    · exact absurd rfl (h i hi)
  · refine .inr ?_
    rw [newL_len]
    show lkt (issO B.nextT s (shareV s.fare (wsOf s)) B.owns (shareV s.fare (wsOf s)).length) _ = _
    rcases issO_lk B.nextT s (shareV s.fare (wsOf s)) B.owns ⟨B.nextT, ((shareV s.fare (wsOf s)).length : Int)⟩ (shareV s.fare (wsOf s)).length with ⟨j, hj, e, h⟩ | ⟨-, h⟩
    · injection e with _ e; omega
    · rw [h]; exact hn _
theorem coupL_issued_ne {B : BookV} {s : SaleV} {t : Tid} (h : t ≠ B.nextT) : coupL (B.issued s) t = coupL B t := by
  refine coupL_same fun i => ?_
  show lkt (issO B.nextT s (shareV s.fare (wsOf s)) B.owns (shareV s.fare (wsOf s)).length) _ = _
  rcases issO_lk B.nextT s (shareV s.fare (wsOf s)) B.owns ⟨t, i⟩ (shareV s.fare (wsOf s)).length with ⟨j, hj, e, -⟩ | ⟨-, h'⟩
  · injection e with e _; exact absurd e h
  · exact h'
def KeysIn (B : BookV) : Prop := ∀ k o, lkt B.owns k = some o → ∃ d ∈ B.docs, d.t = k.t
theorem KeysIn.next {B : BookV} (h : KeysIn B) (hb : BookOk B) (i : Int) : lkt B.owns ⟨B.nextT, i⟩ = none := by
  cases e : lkt B.owns ⟨B.nextT, i⟩ with
  | none => rfl
  | some o =>
    obtain ⟨d, hd, ht⟩ := h _ _ e
    obtain ⟨j, hj, hjd⟩ := List.getElem_of_mem hd
    have := hb.docs j d (by rw [List.getElem?_eq_getElem hj, hjd])
    rw [this] at ht
    have ht : (⟨B.self, (j : Int) + 1⟩ : Tid) = ⟨B.self, (B.docs.length : Int) + 1⟩ := ht
    injection ht with _ ht
    omega
theorem putD_mem_t {ds : List DocV} {d : DocV} {t : Tid} (h : ∃ x ∈ ds, x.t = t) : ∃ x ∈ putD ds d, x.t = t := by
  obtain ⟨x, hx, e⟩ := h
  have : t ∈ (putD ds d).map (·.t) := by rw [putD_t]; exact e ▸ List.mem_map_of_mem hx
  obtain ⟨y, hy, he⟩ := List.mem_map.1 this
  exact ⟨y, hy, he⟩
theorem KeysIn.setD {B : BookV} (h : KeysIn B) (d : DocV) : KeysIn (B.setD d) := fun k o hk => putD_mem_t (h k o hk)
theorem KeysIn.setO {B : BookV} (h : KeysIn B) (k : Kid) (o : OwnV) : KeysIn (B.setO k o) := by
  unfold BookV.setO
  cases e : lkt B.owns k with
  | none => exact h
  | some x =>
    intro k' o' h'
    have h' : lkt (putt B.owns k o) k' = some o' := h'
    rw [lkt_put] at h'
    by_cases q : k = k'
    · subst q; exact h k x e
    · rw [if_neg q] at h'; exact h k' o' h'
theorem KeysIn.turn1 {B : BookV} (h : KeysIn B) (k : Kid) (o : OwnV) (s : Int) : KeysIn (turn1 B k o s) := by
  unfold Go.Proofs.YtifapcpcemigdaaGreat.turn1
  cases freeO o
  · exact h
  · exact h.setO k _
theorem KeysIn.turnL (s : Int) (t : Tid) : ∀ (l : List OwnV) {B : BookV} (i : Int), KeysIn B → KeysIn (turnL s t B i l)
  | [], _, _, h => h
  | o :: l, B, i, h => KeysIn.turnL s t l (i + 1) (h.turn1 ⟨t, i⟩ o s)
theorem KeysIn.turnB {B : BookV} (h : KeysIn B) (t : Tid) (s : Int) : KeysIn (turnB B t s) := KeysIn.turnL s t _ 0 h
theorem KeysIn.issued {B : BookV} (h : KeysIn B) (s : SaleV) : KeysIn (B.issued s) := by
  intro k o hk
  have hk : lkt (issO B.nextT s (shareV s.fare (wsOf s)) B.owns (shareV s.fare (wsOf s)).length) k = some o := hk
  rcases issO_lk B.nextT s (shareV s.fare (wsOf s)) B.owns k (shareV s.fare (wsOf s)).length with ⟨j, hj, e, -⟩ | ⟨-, h'⟩
  · exact ⟨docMade B.nextT s, List.mem_append_right _ (List.mem_singleton.2 rfl), by rw [e]; rfl⟩
  · rw [h'] at hk
    obtain ⟨d, hd, ht⟩ := h k o hk
    exact ⟨d, List.mem_append_left _ hd, ht⟩
end Go.Proofs.YtifapcpcemigdaaGreat
end
