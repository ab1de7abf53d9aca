/- Pc1, Pc2. -/
import Derived.Test.YtifapcpcemigdaaGreatMb930152
import Derived.Test.YtifapcpcemigdaaGreatSxL
set_option maxRecDepth 100000
set_option linter.unusedVariables false
set_option linter.unusedSimpArgs false
set_option linter.unusedSectionVars false
section
namespace Go.Proofs.YtifapcpcemigdaaGreat
open Go.RowKit Go.Lib Go.Tk Go.Shelf Go.Maps
attribute [local go_sem] Oper.semAt_some
set_option maxHeartbeats 4000000 in
theorem all1_JF (F : Fence) (hF : F.fn 118) (hro : F.round = none) (n : Nat) (A : PostA) (P : PostV) (ok : PostOk P) (Bn : Nat) (l : Nat) (J Jx : List (Car P) → World → Prop) (W : World)
    (hGr : ∀ pre W1, J pre W1 → (∃ base, PostIn W1 base A P) ∧ W1.cell? ⟨Bn, 0, none⟩ = some (.pointer (some ⟨A.pb, 0, none⟩)))
    (hY : ∀ pre x W1, J pre W1 → pre ++ [x] <+: carK P P.n.toNat → YieldAt F (n - 1) Tryz.prog l (encCar A x) W1 fun e W' => (e = .returned (.bool true) ∧ J (pre ++ [x]) W') ∨ (e = .returned (.bool false) ∧ Jx (pre ++ [x]) W'))
    (h0 : J [] W) (hn : F.depth.isSome = true → 1 ≤ n) :
    CallsIn F n Tryz.prog 118 (#[.func (.yield l) #[] #[]] ++ #[.pointer (some ⟨Bn, 0, none⟩)]) W fun e W' => (∃ v, e = .returned v) ∧ (J (carK P P.n.toNat) W' ∨ ∃ pre, Jx pre W') := by
  have n0 := ok.n0
  have n1 := ok.n1
  have hw8 : IntKind.u8.wrap P.n = P.n := by rw [IntKind.wrap_u8]; omega
  obtain ⟨⟨base, hP⟩, hBn⟩ := hGr _ _ h0
  have HG := hid hGr
  have HY := hid hY
  have cb := hBn
  have c1 : W.cell? ⟨A.pb, 1, none⟩ = some (.int .i64 P.n) := hP.head.cell 1 rfl
  clear hY hP hBn hGr ok
  refine callsIn_of_wp Tryz.func118 rfl hF ?_ hro
  simp only [Tryz.ntmps118, List.size_toArray, List.length_cons, List.length_nil, Nat.reduceAdd, Nat.reduceSub, Array.replicate_succ, Array.replicate_zero, List.push_toArray, List.append_toArray, List.nil_append, List.cons_append]
  gi_wp2
  clear c1 cb
  gi_loopw [12] (fun i wr => ∃ k : Nat, (k : Int) ≤ P.n ∧ i = .int .u8 k ∧ J (carK P k) wr)
    (fun i _ => P.n.toNat - (RowKit.intOf i).toNat)
  case atStart => exact ⟨0, by omega, rfl, h0⟩
  case round =>
    obtain ⟨k, hk, rfl, hJ⟩ := hrel
    by_cases hlt : (k : Int) < P.n
    · obtain ⟨⟨base, hPI⟩, cb⟩ := HG.out _ _ hJ
      have c2 : wr.cell? ⟨A.pb, 2, none⟩ = some (.map (some A.mb)) := hPI.head.cell 2 rfl
      have hlk := hPI.mapLook k (by omega)
      have hwk : IntKind.u8.wrap ((k : Int) + 1) = k + 1 := by rw [IntKind.wrap_u8]; omega
      clear hPI
      cases ho : P.other k with
      | false =>
        have hc := carK_no ho
        rw [ho] at hlk
        simp only [Bool.false_eq_true, if_false] at hlk
        gi_wp2
        refine ⟨fun _ h => (by cases h), ?_⟩
        gi_wp2
        go_roundw
        case rel => exact ⟨k + 1, by omega, by first | rfl | go_num, by rw [hc]; exact hJ⟩
        case measure => simp [RowKit.intOf]; omega
      | true =>
        have hc := carK_yes ho
        rw [ho] at hlk
        simp only [if_true] at hlk
        have hpre : carK P k ++ [⟨k, ho⟩] <+: carK P P.n.toNat := by
          rw [← hc]
          obtain ⟨j, hj⟩ : ∃ j, P.n.toNat = k + 1 + j := ⟨P.n.toNat - (k + 1), by omega⟩
          rw [hj]
          exact carK_pre P j
        obtain ⟨fn, tmps, assign, body, hy, hR⟩ := HY.out _ ⟨k, ho⟩ wr hJ hpre
        clear hpre
        unfold encCar at hy
        dsimp only at hy
        gi_wp2
        refine ⟨hn, hR.mono ?_⟩
        rintro e W3 (⟨rfl, hJ3⟩ | ⟨rfl, hJx3⟩)
        · gi_wp2
          go_roundw
          case rel => exact ⟨k + 1, by omega, by first | rfl | go_num, by rw [hc]; exact hJ3⟩
          case measure => simp [RowKit.intOf]; omega
        · gi_wp2
          refine bodyPost_ret (results_none rfl _ _ _) rfl ?_
          exact ⟨⟨_, rfl⟩, .inr ⟨_, hJx3⟩⟩
    · have e : k = P.n.toNat := by omega
      subst e
      gi_wp2
      go_end0
      exact ⟨⟨_, rfl⟩, .inl hJ⟩
theorem all1_J (n : Nat) (A : PostA) (P : PostV) (ok : PostOk P) (Bn : Nat) :
    Go.Sx.IterOK Tryz.prog 118 #[.pointer (some ⟨Bn, 0, none⟩)] (encCar A (P := P)) (carK P P.n.toNat) (fun W => (∃ base, PostIn W base A P) ∧ W.cell? ⟨Bn, 0, none⟩ = some (.pointer (some ⟨A.pb, 0, none⟩))) n := fun l J Jx W hG hY h0 =>
  all1_JF _ trivial rfl n A P ok Bn l J Jx W hG hY h0 (fun h => by simp [Go.Sx.wideR, Fence.wide] at h)
end Go.Proofs.YtifapcpcemigdaaGreat
end
section
namespace Go.Proofs.YtifapcpcemigdaaGreat
open Go.RowKit Go.Lib Go.Tk Go.Shelf Go.Maps Go.Vc Go.Sx
theorem keep_fr {S : Nat → Prop} {w w' : World} (hk : Keep S w w') : Fr (fun k => ¬ S k) w w' := ⟨hk.os, hk.tape, hk.output, hk.size, fun b hb hn => hk.block b (Classical.byContradiction hn) hb⟩
def pinC (A : PostA) (P : PostV) (b : Nat) : Chunk where
  at_ S w := A.pb = b ∧ (∃ base, base ≤ w.heap.size ∧ PostIn w base A P) ∧ PostOk P ∧ ∀ k, postFoot A P k → S k
  stable {S w w'} hk hi h := by
    obtain ⟨h1, ⟨base, hb, hP⟩, ok, hf⟩ := h
    exact ⟨h1, ⟨base, Nat.le_trans hb hk.size, hP.fr (keep_fr hk) fun k hk hn => hn (hf k hk)⟩, ok, hf⟩
def pinF (A : PostA) (P : PostV) : PnF := fun b _ => pinC A P b
theorem pin_open {P : PostV} {b : Nat} {v : Value} {R : List Chunk} {w : World} (h : Mem (postF P b v :: R) w) : ∃ x : { A : PostA // ∀ c : Nat, P.other c = true → ∃ a cp, A.vs c = .slice a (P.box c).wait.length cp ∧ (a = none → cp = 0) }, Mem (pinF x.1 P b v :: R) w := by
  have hm := h
  obtain ⟨F, hl⟩ := h
  obtain ⟨base, A, e, hb, hI, ok, hf⟩ := PostAt.ex (hl.has 0 _ rfl)
  refine ⟨⟨A, fun c hc => ?_⟩, F, ⟨fun i c hc => ?_, fun i k hi hk => hl.hi i k hi hk, fun i j k hi hj hij hk => hl.apart i j k hi hj hij hk⟩⟩
  · obtain ⟨a, cp, hv, -, hn, -⟩ := own_slice (hI.box c hc).row
    exact ⟨a, cp, hv, hn⟩
  · cases i with
    | zero => cases hc; exact ⟨e, ⟨base, hb, hI⟩, ok, hf⟩
    | succ i => exact hl.has (i + 1) c hc
theorem pin_shut {A : PostA} {P : PostV} {b : Nat} {v : Value} {R : List Chunk} {w : World} (h : Mem (pinF A P b v :: R) w) : Mem (postF P b v :: R) w :=
  h.weaken (c' := postF P b v) fun S hS => by
    obtain ⟨h1, ⟨base, hb, hP⟩, ok, hf⟩ := hS
    exact ⟨base, A, h1, hb, hP, ok, hf⟩
def bxCells (v : Value) (X : BoxV) : List Value := [v, .int .u64 X.given, .int .u64 X.last]
theorem pin_box {A : PostA} {P : PostV} {c : Nat} (hc : P.other c = true) : ∀ b v, Rd (pinF A P b v) (some ⟨A.bx c, 0, none⟩) (bxCells (A.vs c) (P.box c)) := fun b v S w hS => by
  obtain ⟨-, ⟨base, -, hP⟩, -, -⟩ := hS
  have hB := (hP.box c hc).cells
  intro i hi
  refine ⟨A.bx c, 0, rfl, ?_⟩
  rw [Nat.zero_add, hB.cell i (v := (bxCells (A.vs c) (P.box c)).getD i undef)]
  have : (#[A.vs c, Value.int .u64 (P.box c).given, Value.int .u64 (P.box c).last] : Array Value)[i]? = (bxCells (A.vs c) (P.box c))[i]? := by simp [bxCells]
  rw [this, List.getD_eq_getElem?_getD, List.getElem?_eq_getElem hi]; rfl
theorem pin_row {A : PostA} {P : PostV} {c : Nat} (hc : P.other c = true) {a : Option Addr} {cp : Nat} (hv : A.vs c = .slice a (P.box c).wait.length cp) : ∀ b v, Rd (pinF A P b v) a (cellsL encMsg (P.box c).wait) := fun b v S w hS => by
  obtain ⟨-, ⟨base, -, hP⟩, -, -⟩ := hS
  obtain ⟨a', cp', hv', hr, -⟩ := own_slice (hP.box c hc).row
  rw [hv] at hv'; cases hv'
  exact hr
def rowZ (n : Nat) (cs : List Value) : PnF := fun _ v => { at_ := fun S w => (∀ g, (asSl v).ownBlock = some g → S g) ∧ w.ownsRow 0 48 12 (asSl v) n cs, stable := fun {S w w'} hk hi h => ⟨h.1, ownsRow_fr h.2 (keep_fr hk) fun g hg hn => hn (h.1 g hg)⟩ }
def CloneMF : Nat := 61
theorem ownsRow_0 {w : World} {base : Nat} {e : TypeId} {size : Nat} {v : Value} {n : Nat} {xs : List Value} (h : w.ownsRow base e size v n xs) : w.ownsRow 0 e size v n xs := by
  obtain ⟨hl, h | ⟨g, cap, cur, hv, hg, hh, h2⟩⟩ := h
  · exact ⟨hl, .inl h⟩
  · exact ⟨hl, .inr ⟨g, cap, cur, hv, Nat.zero_le _, hh, h2⟩⟩
theorem cloneM_w (F : PnF) {l : List Msg} {a : Option Addr} {cp j : Nat} (hR : ∀ b v, Rd (F b v) a (cellsL encMsg l)) (hc : a = none → cp = 0) (hl : l.length ≤ 1000) :
    CallOK Tryz.prog CloneMF [.val (.slice a l.length cp)] [((0, j), .fam F)] [] (.raw 1 0) [((1, 0), .fam (rowZ l.length (cellsL encMsg l)))] := by
  intro ε R w hM
  have hM : Mem (F (ε 0 j).1 (ε 0 j).2 :: R) w := hM
  refine (cloneMsg_any l a l.length cp w rfl hc ((hR _ _).row hM 0 rfl) hl).mono fun e w' ⟨v, h1, h2, h3⟩ => ⟨fun _ => (0, v), ?_, ?_⟩
  · rw [h1]
    simp only [SV.den, eset_at]
    rw [asSl_self (RowF.of h2)]
  · have e0 : eset ε 1 (fun _ => (0, v)) 0 j = ε 0 j := by rw [eset_ne (by decide)]
    have hr : Mem (rowZ l.length (cellsL encMsg l) 0 v :: F (ε 0 j).1 (ε 0 j).2 :: R) w' :=
      hM.fresh h3 (fun k => v.ownBlock = some k) ⟨fun g hg => by rw [asSl_self (RowF.of h2)] at hg; exact hg, by rw [asSl_self (RowF.of h2)]; exact ownsRow_0 h2⟩ fun k hk => ⟨(h2.lt k hk).1, (h2.lt k hk).2⟩
    simp only [hden, List.map_cons, List.map_nil, List.cons_append, List.nil_append, SC.den, eset_at, e0]
    exact hr.front 1 rfl
def bxMap (y : Nat → Nat) (ms : List Nat) : List (Int × Value) := ms.map fun (c : Nat) => ((c : Int), .pointer (some ⟨y c, 0, none⟩))
structure PartAt (S : Nat → Prop) (w : World) (P : PostV) (ms ds : List Nat) (y : (Nat → Nat) × (Nat → Value)) (b : Nat) : Prop where
  own : S b
  map : MapAt u8K w b (bxMap y.1 ms)
  box : ∀ c ∈ ds, BoxIn w 0 (y.1 c) (y.2 c) (P.box c)
  foot : ∀ c ∈ ds, ∀ k, boxFoot (y.1 c) (y.2 c) k → S k ∧ k ≠ b
  apart : ∀ c ∈ ds, ∀ d ∈ ds, c ≠ d → ∀ k, boxFoot (y.1 c) (y.2 c) k → ¬ boxFoot (y.1 d) (y.2 d) k
theorem PartAt.keep {S : Nat → Prop} {w w' : World} {P : PostV} {ms ds : List Nat} {y : (Nat → Nat) × (Nat → Value)} {b : Nat} (h : PartAt S w P ms ds y b) (hk : Keep S w w') : PartAt S w' P ms ds y b :=
  ⟨h.own, h.map.fr (keep_fr hk) (fun hn => hn h.own), fun c hc => (h.box c hc).fr (keep_fr hk) (fun hn => hn (h.foot c hc _ (.inl rfl)).1) (fun g hg hn => hn (h.foot c hc _ (.inr hg)).1), h.foot, h.apart⟩
def partY (P : PostV) (ms ds : List Nat) (y : (Nat → Nat) × (Nat → Value)) (b : Nat) : Chunk where
  at_ S w := PartAt S w P ms ds y b
  stable hk hi h := h.keep hk
def partF (P : PostV) (ms : List Nat) : PnF := fun b _ => exC fun y => partY P ms ms y b
def setN (f : Nat → Nat) (c x : Nat) : Nat → Nat := fun d => if d = c then x else f d
def setV (f : Nat → Value) (c : Nat) (x : Value) : Nat → Value := fun d => if d = c then x else f d
theorem part_join {P : PostV} {ms : List Nat} {y : (Nat → Nat) × (Nat → Value)} {b bn c : Nat} {v : Value} {R : List Chunk} {w : World} (hc : c ∉ ms)
    (h : Mem (partY P ms ms y b :: boxZ bn #[asSl v, .int .u64 (P.box c).given, .int .u64 (P.box c).last] :: rowZ (P.box c).wait.length (cellsL encMsg (P.box c).wait) 0 v :: R) w) :
    Mem (partY P ms (ms ++ [c]) (setN y.1 c bn, setV y.2 c (asSl v)) b :: R) w := by
  have hx : ∀ d ∈ ms, setN y.1 c bn d = y.1 d ∧ setV y.2 c (asSl v) d = y.2 d := fun d hd => by
    have : d ≠ c := fun e => hc (by rw [← e]; exact hd)
    unfold setN setV
    rw [if_neg this, if_neg this]; exact ⟨rfl, rfl⟩
  have hx0 : setN y.1 c bn c = bn ∧ setV y.2 c (asSl v) c = asSl v := by
    unfold setN setV
    rw [if_pos rfl, if_pos rfl]; exact ⟨rfl, rfl⟩
  refine mem_join (l := [_, _, _]) (cs := R) h ?_
  rintro S ⟨F, f1, f2, f3⟩
  have a0 : PartAt (F 0) w P ms ms y b := f2 0 _ rfl
  have a1 : F 1 bn ∧ Box w bn _ := f2 1 _ rfl
  have a2 : (∀ g, (asSl v).ownBlock = some g → F 2 g) ∧ w.ownsRow 0 48 12 (asSl v) _ _ := f2 2 _ rfl
  have in0 : ∀ i k, i < 3 → F i k → S k := fun i k hi hk => f1 i k hi hk
  have ap : ∀ i j k, i < 3 → j < 3 → i ≠ j → F i k → ¬ F j k := fun i j k hi hj hij => f3 i j k hi hj hij
  have newF : ∀ k, boxFoot bn (asSl v) k → F 1 k ∨ F 2 k := fun k hk => by
    rcases hk with rfl | hk
    · exact .inl a1.1
    · exact .inr (a2.1 k hk)
  have newS : ∀ k, boxFoot bn (asSl v) k → S k ∧ ¬ F 0 k := fun k hk => by
    rcases newF k hk with h | h
    · exact ⟨in0 1 k (by omega) h, fun h0 => ap 0 1 k (by omega) (by omega) (by omega) h0 h⟩
    · exact ⟨in0 2 k (by omega) h, fun h0 => ap 0 2 k (by omega) (by omega) (by omega) h0 h⟩
  refine ⟨in0 0 _ (by omega) a0.own, ?_, fun d hd => ?_, fun d hd k hk => ?_, fun d hd e he hne k hk hk2 => ?_⟩
  · have : bxMap (setN y.1 c bn, setV y.2 c (asSl v)).1 ms = bxMap y.1 ms := List.map_congr_left fun d hd => by
      show ((d : Int), Value.pointer (some ⟨setN y.1 c bn d, 0, none⟩)) = _
      rw [(hx d hd).1]
    rw [this]; exact a0.map
  · rcases List.mem_append.1 hd with hd | hd
    · show BoxIn w 0 (setN y.1 c bn d) (setV y.2 c (asSl v) d) _
      rw [(hx d hd).1, (hx d hd).2]; exact a0.box d hd
    · rw [List.mem_singleton] at hd
      subst hd
      show BoxIn w 0 (setN y.1 d bn d) (setV y.2 d (asSl v) d) _
      rw [hx0.1, hx0.2]
      exact ⟨a1.2, a2.2, fun g hg e => ap 1 2 g (by omega) (by omega) (by omega) (by rw [e]; exact a1.1) (a2.1 g hg), Nat.zero_le _⟩
  · rcases List.mem_append.1 hd with hd | hd
    · have hk : boxFoot (setN y.1 c bn d) (setV y.2 c (asSl v) d) k := hk
      rw [(hx d hd).1, (hx d hd).2] at hk
      have := a0.foot d hd k hk
      exact ⟨in0 0 k (by omega) this.1, this.2⟩
    · rw [List.mem_singleton] at hd
      subst hd
      have hk : boxFoot (setN y.1 d bn d) (setV y.2 d (asSl v) d) k := hk
      rw [hx0.1, hx0.2] at hk
      have := newS k hk
      exact ⟨this.1, fun e => this.2 (by rw [e]; exact a0.own)⟩
  · have hk : boxFoot (setN y.1 c bn d) (setV y.2 c (asSl v) d) k := hk
    have hk2 : boxFoot (setN y.1 c bn e) (setV y.2 c (asSl v) e) k := hk2
    rcases List.mem_append.1 hd with hd' | hd'
    · rw [(hx d hd').1, (hx d hd').2] at hk
      rcases List.mem_append.1 he with he' | he'
      · rw [(hx e he').1, (hx e he').2] at hk2
        exact a0.apart d hd' e he' hne k hk hk2
      · rw [List.mem_singleton] at he'
        rw [he', hx0.1, hx0.2] at hk2
        exact (newS k hk2).2 (a0.foot d hd' k hk).1
    · rw [List.mem_singleton] at hd'
      rw [hd', hx0.1, hx0.2] at hk
      rcases List.mem_append.1 he with he' | he'
      · rw [(hx e he').1, (hx e he').2] at hk2
        exact (newS k hk).2 (a0.foot e he' k hk2).1
      · rw [List.mem_singleton] at he'
        exact hne (hd'.trans he'.symm)
theorem upd_boxZ {P : PostV} {ms : List Nat} {c : Nat} (hc : c ∉ ms) (hc8 : c ≤ 255) :
    OpG Tryz.prog (isUp 121) upXYZ [.map 0 0, .val (.int .u8 (c : Int)), .ptr 0 1 0] []
      [((0, 0), .fam (partF P ms)), ((0, 1), .famE [.raw 0 2, .val (.int .u64 (P.box c).given), .val (.int .u64 (P.box c).last)] fun b _ vs => boxZ b vs.toArray), ((0, 2), .fam (rowZ (P.box c).wait.length (cellsL encMsg (P.box c).wait)))] (.val undef) [((0, 0), .fam (partF P (ms ++ [c])))] := by
  intro o ho
  obtain ⟨x, y', z, ho, hxy⟩ := isUp_of ho
  rw [hxy]
  refine ⟨fun q hq => by rw [ho]; simpa [Op.operands] using hq, fun ε ρ R w hx hM => ?_⟩
  simp only [List.map_cons, List.map_nil, SV.dens, SV.den, List.cons.injEq, and_true] at hx
  obtain ⟨hx, hy, hz⟩ := hx
  have hM : Mem (partF P ms (ε 0 0).1 (ε 0 0).2 :: boxZ (ε 0 1).1 #[asSl (ε 0 2).2, .int .u64 (P.box c).given, .int .u64 (P.box c).last] :: rowZ (P.box c).wait.length (cellsL encMsg (P.box c).wait) 0 (ε 0 2).2 :: R) w := hM
  obtain ⟨y, hM⟩ := hM.ex
  have h2 := part_join hc hM
  have hm := h2.of 0 rfl (φ := MapAt u8K w (ε 0 0).1 (bxMap (setN y.1 c (ε 0 1).1) ms)) (fun S hS => PartAt.map hS)
  have hw : (Lit.int .u8 (c : Int)).wf = true := by simp [Lit.wf, IntKind.min, IntKind.max, IntKind.signed, IntKind.bits]; omega
  obtain ⟨w', hr, hm', hg'⟩ := hm.update Tryz.underlying121 (x := (c : Int)) hw (.pointer (some ⟨(ε 0 1).1, 0, none⟩))
  have hE : (execOp ρ o).run Tryz.prog w = .ok .skip w' := by
    unfold execOp; rw [ho]
    simp only [hx, hy, hz]
    have hr : (Instr.mapUpdate 121 (.map (some (ε 0 0).1)) (.int .u8 (c : Int)) (.pointer (some ⟨(ε 0 1).1, 0, none⟩))).run Tryz.prog w = .ok () w' := hr
    simp [hr, go_sem]
  rw [hE]
  refine ⟨fun _ => (0, undef), by simp only [SV.den], ?_⟩
  have hfresh : (putL (bxMap (setN y.1 c (ε 0 1).1) ms) (c : Int) (.pointer (some ⟨(ε 0 1).1, 0, none⟩))).Perm (bxMap (setN y.1 c (ε 0 1).1) (ms ++ [c])) := by
    refine (putL_fresh fun p hp e => ?_).trans ?_
    · unfold bxMap at hp
      obtain ⟨d, hd, rfl⟩ := List.mem_map.1 hp
      have e : (d : Int) = (c : Int) := e
      have : d = c := by omega
      exact hc (by rw [← this]; exact hd)
    · unfold bxMap
      rw [List.map_append]
      have : setN y.1 c (ε 0 1).1 c = (ε 0 1).1 := if_pos rfl
      simp only [List.map_cons, List.map_nil, this]
      exact List.Perm.refl _
  have h3 := h2.step 0 rfl (c' := partY P (ms ++ [c]) (ms ++ [c]) (setN y.1 c (ε 0 1).1, setV y.2 c (asSl (ε 0 2).2)) (ε 0 0).1) (fun S hS hlt => by
    have hS : PartAt S w P ms (ms ++ [c]) (setN y.1 c (ε 0 1).1, setV y.2 c (asSl (ε 0 2).2)) (ε 0 0).1 := hS
    have hfr : Fr (fun k => k = (ε 0 0).1) w w' := ⟨hg'.os, hg'.tape, hg'.output, hg'.size, fun b hb hnb => hg'.block b hb (fun e => hnb (by cases e; rfl))⟩
    refine ⟨hfr.mono fun k _ hk => (by rw [hk]; exact hS.own), S, ⟨hS.own, hm'.perm hfresh, fun d hd => (hS.box d hd).fr hfr (fun e => (hS.foot d hd _ (.inl rfl)).2 e) (fun g hg e => (hS.foot d hd _ (.inr hg)).2 e), hS.foot, hS.apart⟩, fun b hb => ⟨.inl hb, Nat.lt_of_lt_of_le (hlt b hb) hg'.size⟩⟩)
  have e0 : eset ε 1 (fun _ => (0, undef)) 0 0 = ε 0 0 := by rw [eset_ne (by decide)]
  show Mem (partF P (ms ++ [c]) (eset ε 1 (fun _ => (0, undef)) 0 0).1 (eset ε 1 (fun _ => (0, undef)) 0 0).2 :: R) w'
  rw [e0]
  exact Mem.in_ex (f := fun y => partY P (ms ++ [c]) (ms ++ [c]) y (ε 0 0).1) (setN y.1 c (ε 0 1).1, setV y.2 c (asSl (ε 0 2).2)) h3
theorem part_post {P : PostV} (ok : PostOk P) {b m : Nat} {v : Value} {R : List Chunk} {w : World} (h : Mem (boxZ b #[.int .u8 P.self, .int .i64 P.n, .map (some m)] :: partF P P.cs m v :: R) w) : Mem (postF P b undef :: R) w := by
  obtain ⟨y, h1⟩ := (h.front 1 rfl).ex
  refine mem_join (l := [_, _]) (cs := R) h1 ?_
  rintro S ⟨F, f1, f2, f3⟩
  have a0 : PartAt (F 0) w P P.cs P.cs y m := f2 0 _ rfl
  have a1 : F 1 b ∧ Box w b _ := f2 1 _ rfl
  have ap : ∀ k, F 0 k → ¬ F 1 k := fun k h => f3 0 1 k (by show 0 < 2; omega) (by show 1 < 2; omega) (by omega) h
  refine ⟨0, ⟨b, m, y.1, y.2⟩, rfl, Nat.zero_le _, ?_, ok, fun k hk => ?_⟩
  · refine ⟨a1.2, a0.map, fun c hc => a0.box c (mem_cs.2 hc), Nat.zero_le _, Nat.zero_le _, fun e => ap m a0.own (by have e : b = m := e; rw [← e]; exact a1.1), fun c hc k hk => ⟨fun e => ap k (a0.foot c (mem_cs.2 hc) k hk).1 (by have e : k = b := e; rw [e]; exact a1.1), (a0.foot c (mem_cs.2 hc) k hk).2⟩, fun c d hc hd hne => a0.apart c (mem_cs.2 hc) d (mem_cs.2 hd) hne⟩
  · rcases hk with rfl | rfl | ⟨c, hc, hk⟩
    · exact f1 1 _ (by show 1 < 2; omega) a1.1
    · exact f1 0 _ (by show 0 < 2; omega) a0.own
    · exact f1 0 _ (by show 0 < 2; omega) (a0.foot c (mem_cs.2 hc) k hk).1
end Go.Proofs.YtifapcpcemigdaaGreat
end
