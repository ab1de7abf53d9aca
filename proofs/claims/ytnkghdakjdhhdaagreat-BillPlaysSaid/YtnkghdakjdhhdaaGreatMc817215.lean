/- Ho1, Ho2, Ho3, SxR, Bk5, Ho4. -/
import Derived.Test.YtnkghdakjdhhdaaGreatM775458c
import Derived.Test.YtnkghdakjdhhdaaGreatSxE
set_option maxRecDepth 100000
set_option linter.unusedVariables false
set_option linter.unusedSimpArgs false
set_option linter.unusedSectionVars false
section
namespace Go.Proofs.YtnkghdakjdhhdaaGreat
open Go.RowKit Go.Lib Go.Tk Go.Shelf Go.Vc Go.Sx
def outsS : List OutV → List SV
  | [] => []
  | x :: l => outS x ++ outsS l
def outsR (l : List OutV) : SC := .row 53 13 l.length (.deep (outsS l)) []
def msR (m : MsV) : SC := .row 51 12 1 (.deep (msS m)) []
def outL (x : OutV) : List Value := .int .u8 x.dst :: msL x.m
def outsL : List OutV → List Value
  | [] => []
  | x :: l => outL x ++ outsL l
def outsC (l : List OutV) : SC := .row 53 13 l.length (.shal (outsL l)) []
theorem outs_dens (ε : Env) : ∀ l : List OutV, SV.dens ε (outsS l) = outsL l
  | [] => rfl
  | x :: l => by
    unfold outsS outsL
    rw [dens_append, outs_dens ε l]; rfl
theorem outs_den (l : List OutV) (ε : Env) (s k : Nat) : (outsR l).den ε s k = (outsC l).den ε s k := by
  unfold outsR outsC
  simp only [SC.den, SL.den, outs_dens]
theorem outs_of {P : Program} {f : Nat} {args : List SV} {rd pre H : Heap} {ret : SV} {l : List OutV} (h : CallOK P f args rd pre ret (H ++ [((1, 0), outsR l)])) : CallOK P f args rd pre ret (H ++ [((1, 0), outsC l)]) :=
  h.to_post fun ε => by
    rw [hden_append, hden_append]
    congr 1
    simp only [hden, List.map_cons, List.map_nil, outs_den]
structure HR where
  out : List OutV
  e : Int
  b : BookV
def HtellF : Nat := 88
def FreeF : Nat := 89
theorem htell_w (c : Int) (m : MsV) : CallOK Tryz.prog HtellF [.val (.int .u8 c), .raw 0 0] [((0, 0), msR m)] [] (.raw 1 0) [((1, 0), outsR [⟨c, m⟩])] := callOK_runU 400 [] (by kernel_rfl) (by kernel_rfl)
theorem free_w (s : Int) : CallOK Tryz.prog FreeF [.val (.int .u8 s)] [] [] (.val (.bool (decide (s = 1)))) [] := callOK_run 400 [] (by kernel_rfl) (by kernel_rfl)
def wantH (h : HeldV) : HeldV := { h with wanted := true }
def wantQ (B : BookV) (k : Kid) : HR :=
  bif (lkt B.helds k).isSome && (((lkt B.helds k).getD held0).here || ((lkt B.helds k).getD held0).wanted) then ⟨[], 6, B⟩
  else bif decide (B.setHE k = 0) then ⟨[⟨k.t.c, ⟨1, k, cpn0, 0, 0⟩⟩], 0, B.setH k (wantH ((lkt B.helds k).getD held0))⟩ else ⟨[], B.setHE k, B⟩
def WantF : Nat := 32
theorem want_w (F : CF) (B : BookV) {k : Kid} (hk : KidOk k) : CallOK Tryz.prog WantF [.ptr 0 0 0, .agg (kidS k)] [] (bkH F B) (.tup [.raw 1 0, eN (wantQ B k).e]) (bkH F (wantQ B k).b ++ [((1, 0), outsR (wantQ B k).out)]) := by
  have c1 := held_w F B hk
  have c2 := setHeld_w F B hk (wantH ((lkt B.helds k).getD held0))
  have c3 := htell_w k.t.c ⟨1, k, cpn0, 0, 0⟩
  have go : ∀ q, wantQ B k = q → CallOK Tryz.prog WantF [.ptr 0 0 0, .agg (kidS k)] [] (bkH F B) (.tup [.raw 1 0, eN q.e]) (bkH F q.b ++ [((1, 0), outsR q.out)]) → CallOK Tryz.prog WantF [.ptr 0 0 0, .agg (kidS k)] [] (bkH F B) (.tup [.raw 1 0, eN (wantQ B k).e]) (bkH F (wantQ B k).b ++ [((1, 0), outsR (wantQ B k).out)]) := fun q e h => e ▸ h
  have no2 : B.setHE k ≠ 0 → B.setH k (wantH ((lkt B.helds k).getD held0)) = B := fun e => by unfold BookV.setH; rw [decide_eq_false e]; rfl
  have fin : (((lkt B.helds k).isSome && (((lkt B.helds k).getD held0).here || ((lkt B.helds k).getD held0).wanted)) = false) → wantQ B k = bif decide (B.setHE k = 0) then ⟨[⟨k.t.c, ⟨1, k, cpn0, 0, 0⟩⟩], 0, B.setH k (wantH ((lkt B.helds k).getD held0))⟩ else ⟨[], B.setHE k, B⟩ := fun h => by unfold wantQ; rw [h]; rfl
  cases hl : lkt B.helds k with
  | none =>
    rw [hl] at c1 c2 no2 fin
    have f := fin rfl
    rcases Bool.eq_false_or_eq_true (decide (B.setHE k = 0)) with g | g
    · rw [g] at f
      have g0 := of_decide_eq_true g
      have g1 : (!decide (B.setHE k = 0)) = false := by rw [g]; rfl
      exact go _ f (callOK_run 400 [hC 3 2 c1, hC 7 3 c2, hI 7 3 IntKind.i64 _ _ g0, hC 10 6 c3] (by kernel_rfl) (by kernel_rfl))
    · rw [g] at f
      have g1 : (!decide (B.setHE k = 0)) = true := by rw [g]; rfl
      rw [no2 (of_decide_eq_false g)] at c2
      exact go _ f (callOK_run 400 [hC 3 2 c1, hC 7 3 c2, hB 8 1 _ _ g1] (by kernel_rfl) (by kernel_rfl))
  | some h =>
    rw [hl] at c1 c2 no2 fin
    have fin : (h.here || h.wanted) = false → wantQ B k = bif decide (B.setHE k = 0) then ⟨[⟨k.t.c, ⟨1, k, cpn0, 0, 0⟩⟩], 0, B.setH k (wantH h)⟩ else ⟨[], B.setHE k, B⟩ := fin
    have yes : (h.here || h.wanted) = true → wantQ B k = ⟨[], 6, B⟩ := fun e => by unfold wantQ; rw [hl]; show (bif true && (h.here || h.wanted) then _ else _) = _; rw [e]; rfl
    rcases Bool.eq_false_or_eq_true h.here with e1 | e1
    · exact go _ (yes (by rw [e1]; rfl)) (callOK_run 400 [hC 3 2 c1, hB 4 4 _ _ e1] (by kernel_rfl) (by kernel_rfl))
    rcases Bool.eq_false_or_eq_true h.wanted with e2 | e2
    · exact go _ (yes (by rw [e1, e2]; rfl)) (callOK_run 400 [hC 3 2 c1, hB 4 4 _ _ e1, hB 4 7 _ _ e2] (by kernel_rfl) (by kernel_rfl))
    have f := fin (by rw [e1, e2]; rfl)
    rcases Bool.eq_false_or_eq_true (decide (B.setHE k = 0)) with g | g
    · rw [g] at f
      have g1 : (!decide (B.setHE k = 0)) = false := by rw [g]; rfl
      exact go _ f (callOK_run 400 [hC 3 2 c1, hB 4 4 _ _ e1, hB 4 7 _ _ e2, hC 7 3 c2, hB 8 1 _ _ g1, hC 10 6 c3] (by kernel_rfl) (by kernel_rfl))
    · rw [g] at f
      have g1 : (!decide (B.setHE k = 0)) = true := by rw [g]; rfl
      rw [no2 (of_decide_eq_false g)] at c2
      exact go _ f (callOK_run 400 [hC 3 2 c1, hB 4 4 _ _ e1, hB 4 7 _ _ e2, hC 7 3 c2, hB 8 1 _ _ g1] (by kernel_rfl) (by kernel_rfl))
def goneH (h : HeldV) : HeldV := { h with here := false }
def GiveF : Nat := 90
def giveO (k : Kid) (h : HeldV) : OutV := ⟨k.t.c, ⟨5, k, h.k, 0, 0⟩⟩
theorem give_w (F : CF) (B : BookV) {k : Kid} (hk : KidOk k) (h : HeldV) : CallOK Tryz.prog GiveF [.ptr 0 0 0, .agg (kidS k), .agg (heldS h)] [] (bkH F B) (.raw 1 0) (bkH F (B.setH k (goneH h)) ++ [((1, 0), outsR [giveO k h])]) := by
  have c2 := setHeld_w F B hk (goneH h)
  have c3 := htell_w k.t.c ⟨5, k, h.k, 0, 0⟩
  exact callOK_run 400 [hC 2 3 c2, hC 3 8 c3] (by kernel_rfl) (by kernel_rfl)
def hearS (c : Int) (m : MsV) : List SV := .ptr 0 0 0 :: .val (.int .u8 c) :: msS m
def HrefuseF : Nat := 117
def HheldF : Nat := 118
def HawayF : Nat := 119
def refO (c : Int) (k : Kid) (e : Int) : OutV := ⟨c, ⟨3, k, cpn0, 0, e⟩⟩
theorem hrefuse_w (F : CF) (B : BookV) (c : Int) (m : MsV) (e : Int) : CallOK Tryz.prog HrefuseF [.agg (hearS c m), eN e] (bkH F B) [] (.raw 1 0) [((1, 0), outsR [refO c m.key e])] := by
  have c3 := htell_w c ⟨3, m.key, cpn0, 0, e⟩
  exact callOK_run 400 [hC 1 8 c3] (by kernel_rfl) (by kernel_rfl)
def isHeld (B : BookV) (c : Int) (k : Kid) : Bool := (lkt B.helds k).isSome && decide (k.t.c = c)
def isAway (B : BookV) (c : Int) (k : Kid) : Bool := (lkt B.owns k).isSome && (((lkt B.owns k).getD own0).away && decide (((lkt B.owns k).getD own0).dst = c))
theorem hheld_w (F : CF) (B : BookV) (c : Int) (m : MsV) (hk : KidOk m.key) : CallOK Tryz.prog HheldF [.agg (hearS c m)] (bkH F B) [] (.tup [.agg (heldS ((lkt B.helds m.key).getD held0)), .val (.bool (isHeld B c m.key))]) [] := by
  have c1 := held_w F B hk
  unfold isHeld
  cases hl : lkt B.helds m.key with
  | none =>
    rw [hl] at c1
    exact callOK_run 400 [hC 1 5 c1] (by kernel_rfl) (by kernel_rfl)
  | some h =>
    rw [hl] at c1
    rcases Bool.eq_false_or_eq_true (decide (m.key.t.c = c)) with e1 | e1 <;> simp only [e1] <;> exact callOK_run 400 [hC 1 5 c1, hB 2 11 _ _ e1] (by kernel_rfl) (by kernel_rfl)
theorem haway_w (F : CF) (B : BookV) (c : Int) (m : MsV) (hk : KidOk m.key) : CallOK Tryz.prog HawayF [.agg (hearS c m)] (bkH F B) [] (.tup [.agg (ownS ((lkt B.owns m.key).getD own0)), .val (.bool (isAway B c m.key))]) [] := by
  have c1 := own_w F B hk
  unfold isAway
  cases hl : lkt B.owns m.key with
  | none =>
    rw [hl] at c1
    exact callOK_run 400 [hC 1 5 c1] (by kernel_rfl) (by kernel_rfl)
  | some o =>
    rw [hl] at c1
    simp only [Option.getD_some]
    rcases Bool.eq_false_or_eq_true o.away with e1 | e1 <;> rcases Bool.eq_false_or_eq_true (decide (o.dst = c)) with e2 | e2 <;> simp only [e1, e2] <;> exact callOK_run 400 [hC 1 5 c1, hB 2 5 _ _ e1, hB 2 12 _ _ e2] (by kernel_rfl) (by kernel_rfl)
end Go.Proofs.YtnkghdakjdhhdaaGreat
end
section
namespace Go.Proofs.YtnkghdakjdhhdaaGreat
open Go.RowKit Go.Lib Go.Tk Go.Shelf Go.Vc Go.Sx
def givenO (o : OwnV) (c : Int) : OwnV := { o with k := { o.k with n := IntKind.u32.wrap (o.k.n + 1) }, away := true, dst := c }
def hwantQ (B : BookV) (c : Int) (k : Kid) : HR :=
  let o := (lkt B.owns k).getD own0
  bif !(lkt B.owns k).isSome then ⟨[refO c k 4], 0, B⟩
  else bif o.away then ⟨[refO c k 160], 0, B⟩
  else bif !decide (o.k.l.c = c) then ⟨[refO c k 1], 0, B⟩
  else bif !decide (o.k.s = 1) then ⟨[refO c k 6], 0, B⟩
  else bif decide (o.k.n = 4294967295) then ⟨[refO c k 3], 0, B⟩
  else ⟨[⟨c, ⟨2, k, (givenO o c).k, 0, 0⟩⟩], 0, B.setO k (givenO o c)⟩
def HwantF : Nat := 58
theorem hwant_w (F : CF) (B : BookV) (c : Int) (m : MsV) (hk : KidOk m.key) : CallOK Tryz.prog HwantF [.agg (hearS c m)] [] (bkH F B) (.raw 1 0) (bkH F (hwantQ B c m.key).b ++ [((1, 0), outsR (hwantQ B c m.key).out)]) := by
  have c1 := own_w F B hk
  have r1 := hrefuse_w F B c m 4
  have r2 := hrefuse_w F B c m 160
  have r3 := hrefuse_w F B c m 1
  have r4 := hrefuse_w F B c m 6
  have r5 := hrefuse_w F B c m 3
  unfold hwantQ
  cases hl : lkt B.owns m.key with
  | none =>
    rw [hl] at c1
    exact callOK_run 400 [hC 1 5 c1, hC 3 1 r1] (by kernel_rfl) (by kernel_rfl)
  | some o =>
    rw [hl] at c1
    have c2 := setOwn_w F B hk (givenO o c)
    have c3 := free_w o.k.s
    have c4 := htell_w c ⟨2, m.key, (givenO o c).k, 0, 0⟩
    simp only [Option.getD_some]
    rcases Bool.eq_false_or_eq_true o.away with e1 | e1
    · simp only [e1]; exact callOK_run 400 [hC 1 5 c1, hB 4 1 _ _ e1, hC 5 1 r2] (by kernel_rfl) (by kernel_rfl)
    rcases Bool.eq_false_or_eq_true (decide (o.k.l.c = c)) with e2 | e2
    · have e2' : (!decide (o.k.l.c = c)) = false := by rw [e2]; rfl
      rcases Bool.eq_false_or_eq_true (decide (o.k.s = 1)) with e3 | e3 <;> rcases Bool.eq_false_or_eq_true (decide (o.k.n = 4294967295)) with e4 | e4 <;> simp only [e1, e2, e3, e4] <;> exact callOK_run 400 [hC 1 5 c1, hB 4 1 _ _ e1, hB 6 6 _ _ e2', hC 8 3 c3, hB 8 3 _ _ e3, hC 9 1 r4, hB 10 3 _ _ e4, hC 14 6 c2, hC 15 9 c4, hC 11 1 r5] (by kernel_rfl) (by kernel_rfl)
    · have e2' : (!decide (o.k.l.c = c)) = true := by rw [e2]; rfl
      simp only [e1, e2]; exact callOK_run 400 [hC 1 5 c1, hB 4 1 _ _ e1, hB 6 6 _ _ e2', hC 7 1 r3] (by kernel_rfl) (by kernel_rfl)
def newH (k : Cpn) : HeldV := ⟨k, true, false, false, false⟩
def hgrantQ (B : BookV) (c : Int) (m : MsV) : HR :=
  let h := (lkt B.helds m.key).getD held0
  bif !decide (m.key.t.c = c) || isHeld B c m.key && (h.here || decide (m.k.n ≤ h.k.n)) then ⟨[], 0, B⟩
  else bif decide (B.setHE m.key = 3) then ⟨[], 3, B⟩ else ⟨[], 0, B.setH m.key (newH m.k)⟩
def HgrantF : Nat := 60
theorem hgrant_w (F : CF) (B : BookV) (c : Int) (m : MsV) (hk : KidOk m.key) : CallOK Tryz.prog HgrantF [.agg (hearS c m)] [] (bkH F B) (eN (hgrantQ B c m).e) (bkH F (hgrantQ B c m).b) := by
  have c1 := hheld_w F B c m hk
  have c2 := setHeld_w F B hk (newH m.k)
  have no2 : B.setHE m.key = 3 → B.setH m.key (newH m.k) = B := fun e => by unfold BookV.setH; rw [e]; rfl
  unfold hgrantQ
  rcases Bool.eq_false_or_eq_true (decide (m.key.t.c = c)) with e1 | e1
  · have e1' : (!decide (m.key.t.c = c)) = false := by rw [e1]; rfl
    rcases Bool.eq_false_or_eq_true (decide (B.setHE m.key = 3)) with e5 | e5
    · rw [no2 (of_decide_eq_true e5)] at c2
      rcases Bool.eq_false_or_eq_true (isHeld B c m.key) with e2 | e2 <;> rcases Bool.eq_false_or_eq_true ((lkt B.helds m.key).getD held0).here with e3 | e3 <;> rcases Bool.eq_false_or_eq_true (decide (m.k.n ≤ ((lkt B.helds m.key).getD held0).k.n)) with e4 | e4 <;> simp only [e1, e2, e3, e4, e5] <;> (have e6 := of_decide_eq_true e5) <;> exact callOK_run 400 [hC 1 1 c1, hB 1 4 _ _ e2, hB 2 7 _ _ e1', hB 2 12 _ _ e3, hB 2 21 _ _ e4, hC 4 9 c2, hI 4 9 IntKind.i64 _ _ e6] (by kernel_rfl) (by kernel_rfl)
    · rcases Bool.eq_false_or_eq_true (isHeld B c m.key) with e2 | e2 <;> rcases Bool.eq_false_or_eq_true ((lkt B.helds m.key).getD held0).here with e3 | e3 <;> rcases Bool.eq_false_or_eq_true (decide (m.k.n ≤ ((lkt B.helds m.key).getD held0).k.n)) with e4 | e4 <;> simp only [e1, e2, e3, e4, e5] <;> exact callOK_run 400 [hC 1 1 c1, hB 1 4 _ _ e2, hB 2 7 _ _ e1', hB 2 12 _ _ e3, hB 2 21 _ _ e4, hC 4 9 c2, hB 5 1 _ _ e5] (by kernel_rfl) (by kernel_rfl)
  · have e1' : (!decide (m.key.t.c = c)) = true := by rw [e1]; rfl
    simp only [e1]; exact callOK_run 400 [hC 1 1 c1, hB 2 7 _ _ e1'] (by kernel_rfl) (by kernel_rfl)
def notH (h : HeldV) : HeldV := { h with wanted := false }
def notO (o : OwnV) : OwnV := { o with asked := false }
def hrefH (B : BookV) (c : Int) (k : Kid) : BookV := bif isHeld B c k then B.setH k (notH ((lkt B.helds k).getD held0)) else B
def hrefB (B : BookV) (c : Int) (k : Kid) : BookV := bif isAway (hrefH B c k) c k then (hrefH B c k).setO k (notO ((lkt (hrefH B c k).owns k).getD own0)) else hrefH B c k
def HrefusedF : Nat := 62
def noS : SV := .tup []
theorem hrefused_w (F : CF) (B : BookV) (c : Int) (m : MsV) (hk : KidOk m.key) : CallOK Tryz.prog HrefusedF [.agg (hearS c m)] [] (bkH F B) noS (bkH F (hrefB B c m.key)) := by
  have c1 := hheld_w F B c m hk
  have c2 := setHeld_w F B hk (notH ((lkt B.helds m.key).getD held0))
  have c3 := haway_w F (hrefH B c m.key) c m hk
  have c4 := setOwn_w F (hrefH B c m.key) hk (notO ((lkt (hrefH B c m.key).owns m.key).getD own0))
  rcases Bool.eq_false_or_eq_true (isHeld B c m.key) with e1 | e1
  · have e : hrefH B c m.key = B.setH m.key (notH ((lkt B.helds m.key).getD held0)) := by unfold hrefH; rw [e1]; rfl
    unfold hrefB
    rw [e] at c3 c4 ⊢
    rcases Bool.eq_false_or_eq_true (isAway (B.setH m.key (notH ((lkt B.helds m.key).getD held0))) c m.key) with e2 | e2 <;> simp only [e2] <;> exact callOK_run 400 [hC 1 1 c1, hB 1 4 _ _ e1, hC 4 6 c2, hC 5 1 c3, hB 5 4 _ _ e2, hC 8 6 c4] (by kernel_rfl) (by kernel_rfl)
  · have e : hrefH B c m.key = B := by unfold hrefH; rw [e1]; rfl
    unfold hrefB
    rw [e] at c3 c4 ⊢
    rcases Bool.eq_false_or_eq_true (isAway B c m.key) with e2 | e2 <;> simp only [e2] <;> exact callOK_run 400 [hC 1 1 c1, hB 1 4 _ _ e1, hC 5 1 c3, hB 5 4 _ _ e2, hC 8 6 c4] (by kernel_rfl) (by kernel_rfl)
def hrecallQ (B : BookV) (c : Int) (k : Kid) : HR :=
  let h := (lkt B.helds k).getD held0
  bif !isHeld B c k || !h.here then ⟨[], 0, B⟩
  else bif !decide (h.k.s = 1) then ⟨[refO c k 6], 0, B⟩
  else ⟨[giveO k h], 0, B.setH k (goneH h)⟩
def HrecallF : Nat := 64
theorem hrecall_w (F : CF) (B : BookV) (c : Int) (m : MsV) (hk : KidOk m.key) : CallOK Tryz.prog HrecallF [.agg (hearS c m)] [] (bkH F B) (.raw 1 0) (bkH F (hrecallQ B c m.key).b ++ [((1, 0), outsR (hrecallQ B c m.key).out)]) := by
  have c1 := hheld_w F B c m hk
  have c2 := free_w ((lkt B.helds m.key).getD held0).k.s
  have c3 := hrefuse_w F B c m 6
  have c4 := give_w F B hk ((lkt B.helds m.key).getD held0)
  unfold hrecallQ
  rcases Bool.eq_false_or_eq_true (isHeld B c m.key) with e1 | e1 <;> rcases Bool.eq_false_or_eq_true ((lkt B.helds m.key).getD held0).here with e2 | e2 <;> rcases Bool.eq_false_or_eq_true (decide (((lkt B.helds m.key).getD held0).k.s = 1)) with e3 | e3 <;> simp only [e1, e2, e3] <;> exact callOK_run 400 [hC 1 1 c1, hB 1 4 _ _ e1, hB 2 4 _ _ e2, hC 4 3 c2, hB 4 3 _ _ e3, hC 5 1 c3, hC 6 6 c4] (by kernel_rfl) (by kernel_rfl)
def backO (o : OwnV) : OwnV := { o with away := false, asked := false }
def hretB (B : BookV) (c : Int) (m : MsV) : BookV := bif isAway B c m.key && decide (((lkt B.owns m.key).getD own0).k.n = m.k.n) then B.setO m.key (backO ((lkt B.owns m.key).getD own0)) else B
def HreturnedF : Nat := 66
theorem hreturned_w (F : CF) (B : BookV) (c : Int) (m : MsV) (hk : KidOk m.key) : CallOK Tryz.prog HreturnedF [.agg (hearS c m)] [] (bkH F B) noS (bkH F (hretB B c m)) := by
  have c1 := haway_w F B c m hk
  have c2 := setOwn_w F B hk (backO ((lkt B.owns m.key).getD own0))
  unfold hretB
  rcases Bool.eq_false_or_eq_true (isAway B c m.key) with e1 | e1 <;> rcases Bool.eq_false_or_eq_true (decide (((lkt B.owns m.key).getD own0).k.n = m.k.n)) with e2 | e2 <;> simp only [e1, e2] <;> exact callOK_run 400 [hC 1 1 c1, hB 1 4 _ _ e1, hB 2 9 _ _ e2, hC 4 6 c2] (by kernel_rfl) (by kernel_rfl)
end Go.Proofs.YtnkghdakjdhhdaaGreat
end
section
namespace Go.Proofs.YtnkghdakjdhhdaaGreat
open Go.RowKit Go.Lib Go.Tk Go.Shelf Go.Vc Go.Sx
def hearB (c : Int) (m : MsV) : Heap := [((0, 4), .box none (hearS c m))]
def Hear1 : Nat := 57
def Hear2 : Nat := 59
def Hear3 : Nat := 61
def Hear4 : Nat := 63
def Hear5 : Nat := 65
theorem hear1_w (F : CF) (B : BookV) (c : Int) (m : MsV) (hk : KidOk m.key) : CallOK Tryz.prog Hear1 [.ptr 0 4 0] (hearB c m) (bkH F B) (.tup [.raw 1 0, eN 0]) (bkH F (hwantQ B c m.key).b ++ [((1, 0), outsC (hwantQ B c m.key).out)]) := by
  have c1 := outs_of (hwant_w F B c m hk)
  exact callOK_run 400 [hC 1 1 c1] (by kernel_rfl) (by kernel_rfl)
theorem hear2_w (F : CF) (B : BookV) (c : Int) (m : MsV) (hk : KidOk m.key) : CallOK Tryz.prog Hear2 [.ptr 0 4 0] (hearB c m) (bkH F B) (.tup [nilS, eN (hgrantQ B c m).e]) (bkH F (hgrantQ B c m).b) := by
  have c1 := hgrant_w F B c m hk
  exact callOK_run 400 [hC 1 1 c1] (by kernel_rfl) (by kernel_rfl)
theorem hear3_w (F : CF) (B : BookV) (c : Int) (m : MsV) (hk : KidOk m.key) : CallOK Tryz.prog Hear3 [.ptr 0 4 0] (hearB c m) (bkH F B) (.tup [nilS, eN 0]) (bkH F (hrefB B c m.key)) := by
  have c1 := hrefused_w F B c m hk
  exact callOK_run 400 [hC 1 1 c1] (by kernel_rfl) (by kernel_rfl)
theorem hear4_w (F : CF) (B : BookV) (c : Int) (m : MsV) (hk : KidOk m.key) : CallOK Tryz.prog Hear4 [.ptr 0 4 0] (hearB c m) (bkH F B) (.tup [.raw 1 0, eN 0]) (bkH F (hrecallQ B c m.key).b ++ [((1, 0), outsC (hrecallQ B c m.key).out)]) := by
  have c1 := outs_of (hrecall_w F B c m hk)
  exact callOK_run 400 [hC 1 1 c1] (by kernel_rfl) (by kernel_rfl)
theorem hear5_w (F : CF) (B : BookV) (c : Int) (m : MsV) (hk : KidOk m.key) : CallOK Tryz.prog Hear5 [.ptr 0 4 0] (hearB c m) (bkH F B) (.tup [nilS, eN 0]) (bkH F (hretB B c m)) := by
  have c1 := hreturned_w F B c m hk
  exact callOK_run 400 [hC 1 1 c1] (by kernel_rfl) (by kernel_rfl)
def hearDo (B : BookV) (c : Int) (m : MsV) : HR :=
  bif decide (m.kind = 1) then hwantQ B c m.key else bif decide (m.kind = 2) then ⟨[], (hgrantQ B c m).e, (hgrantQ B c m).b⟩ else bif decide (m.kind = 3) then ⟨[], 0, hrefB B c m.key⟩ else bif decide (m.kind = 4) then hrecallQ B c m.key else ⟨[], 0, hretB B c m⟩
def badHear (B : BookV) (c : Int) (kind : Int) : Bool := !(decide (1 ≤ kind) && decide (kind ≤ 5)) || (decide (c = B.self) || decide (B.n ≤ c))
def hearQ (B : BookV) (c : Int) (m : MsV) : HR := bif badHear B c m.kind then ⟨[], 1, B⟩ else hearDo B c m
theorem hwant_e (B : BookV) (c : Int) (k : Kid) : (hwantQ B c k).e = 0 := by
  unfold hwantQ
  dsimp only
  cases (lkt B.owns k).isSome <;> cases ((lkt B.owns k).getD own0).away <;> cases decide (((lkt B.owns k).getD own0).k.l.c = c) <;> cases decide (((lkt B.owns k).getD own0).k.s = 1) <;> cases decide (((lkt B.owns k).getD own0).k.n = 4294967295) <;> rfl
theorem hrecall_e (B : BookV) (c : Int) (k : Kid) : (hrecallQ B c k).e = 0 := by
  unfold hrecallQ
  dsimp only
  cases isHeld B c k <;> cases ((lkt B.helds k).getD held0).here <;> cases decide (((lkt B.helds k).getD held0).k.s = 1) <;> rfl
def HearF : Nat := 14
def FNT : TypeId := 132
def hearEs : List (Value × SV × Nat) := [(.int .u8 5, .fn (.func Hear5) [] [.ptr 0 4 0], 0), (.int .u8 4, .fn (.func Hear4) [] [.ptr 0 4 0], 0), (.int .u8 3, .fn (.func Hear3) [] [.ptr 0 4 0], 0), (.int .u8 2, .fn (.func Hear2) [] [.ptr 0 4 0], 0), (.int .u8 1, .fn (.func Hear1) [] [.ptr 0 4 0], 0)]
theorem keyOf_u8 {x : Int} (h : 0 ≤ x ∧ x ≤ 255) : ∃ l, keyOf Tryz.prog 5 (.int .u8 x) = some l := ⟨_, Go.Maps.keyOf_int_mk Tryz.underlying5 (wf_u8 h)⟩
theorem hear_w (F : CF) (B : BookV) {c : Int} (hc : 0 ≤ c ∧ c ≤ 255) (m : MsV) (hm : 0 ≤ m.kind ∧ m.kind ≤ 255) (hk : KidOk m.key) : CallOK Tryz.prog HearF [.ptr 0 0 0, .val (.int .u8 c), .agg (msS m)] [] (bkH F B) (.tup [.raw 1 0, eN (hearQ B c m).e]) (bkH F (hearQ B c m).b ++ [((1, 0), outsC (hearQ B c m).out)]) := by
  obtain ⟨kind, key, k, amt, code⟩ := m
  have c1 := self_w F B
  have c2 := carr_w F B
  have w1 : IntKind.i64.wrap c = c := wr_i64 (by omega)
  have h1 := hear1_w F B c ⟨kind, key, k, amt, code⟩ hk
  have h2 := hear2_w F B c ⟨kind, key, k, amt, code⟩ hk
  have h3 := hear3_w F B c ⟨kind, key, k, amt, code⟩ hk
  have h4 := hear4_w F B c ⟨kind, key, k, amt, code⟩ hk
  have h5 := hear5_w F B c ⟨kind, key, k, amt, code⟩ hk
  have E1 := hwant_e B c key
  have E4 := hrecall_e B c key
  by_cases g : kind = 1 ∨ kind = 2 ∨ kind = 3 ∨ kind = 4 ∨ kind = 5
  · rcases Bool.eq_false_or_eq_true (decide (c = B.self)) with e1 | e1
    · have e : badHear B c kind = true := by unfold badHear; rw [e1, Bool.true_or, Bool.or_true]
      unfold hearQ
      simp only [e]
      rcases g with rfl | rfl | rfl | rfl | rfl <;> exact callOK_run 400 [hC 6 5 c1, hB 6 6 _ _ e1] (by kernel_rfl) (by kernel_rfl)
    rcases Bool.eq_false_or_eq_true (decide (B.n ≤ c)) with e2 | e2
    · have e : badHear B c kind = true := by unfold badHear; rw [e2, Bool.or_true, Bool.or_true]
      unfold hearQ
      simp only [e]
      rcases g with rfl | rfl | rfl | rfl | rfl <;> exact callOK_run 400 [hC 6 5 c1, hB 6 6 _ _ e1, hI 6 10 IntKind.i64 _ _ w1, hC 6 12 c2, hB 6 13 _ _ e2] (by kernel_rfl) (by kernel_rfl)
    have e : badHear B c kind = false := by
      unfold badHear; rw [e1, e2]
      rcases g with rfl | rfl | rfl | rfl | rfl <;> rfl
    unfold hearQ
    simp only [e]
    rcases g with rfl | rfl | rfl | rfl | rfl
    · show CallOK _ _ _ _ _ (.tup [.raw 1 0, eN (hwantQ B c key).e]) _
      rw [E1]
      exact callOK_run 400 [hC 6 5 c1, hB 6 6 _ _ e1, hI 6 10 IntKind.i64 _ _ w1, hC 6 12 c2, hB 6 13 _ _ e2, hC 8 1 h1] (by kernel_rfl) (by kernel_rfl)
    · exact callOK_run 400 [hC 6 5 c1, hB 6 6 _ _ e1, hI 6 10 IntKind.i64 _ _ w1, hC 6 12 c2, hB 6 13 _ _ e2, hC 8 1 h2] (by kernel_rfl) (by kernel_rfl)
    · exact callOK_run 400 [hC 6 5 c1, hB 6 6 _ _ e1, hI 6 10 IntKind.i64 _ _ w1, hC 6 12 c2, hB 6 13 _ _ e2, hC 8 1 h3] (by kernel_rfl) (by kernel_rfl)
    · show CallOK _ _ _ _ _ (.tup [.raw 1 0, eN (hrecallQ B c key).e]) _
      rw [E4]
      exact callOK_run 400 [hC 6 5 c1, hB 6 6 _ _ e1, hI 6 10 IntKind.i64 _ _ w1, hC 6 12 c2, hB 6 13 _ _ e2, hC 8 1 h4] (by kernel_rfl) (by kernel_rfl)
    · exact callOK_run 400 [hC 6 5 c1, hB 6 6 _ _ e1, hI 6 10 IntKind.i64 _ _ w1, hC 6 12 c2, hB 6 13 _ _ e2, hC 8 1 h5] (by kernel_rfl) (by kernel_rfl)
  · have e : badHear B c kind = true := by
      unfold badHear
      have : (decide (1 ≤ kind) && decide (kind ≤ 5)) = false := by
        rw [Bool.and_eq_false_iff, decide_eq_false_iff_not, decide_eq_false_iff_not]
        by_cases h : 1 ≤ kind
        · exact .inr (by omega)
        · exact .inl h
      rw [this]; rfl
    unfold hearQ
    simp only [e]
    have l1 := look_missG (P := Tryz.prog) (t := FNT) (c := true) (es := hearEs) (k := .u8) (x := kind) (ret := .tup [.val .nilFunc, .val (.bool false)]) (z := .nilFunc) Tryz.underlying132 Tryz.underlying5 (by kernel_rfl) (by kernel_rfl) (keyOf_u8 hm) (fun w => still_run (by kernel_rfl) w)
      (fun q hq e => g (by
        simp only [hearEs, List.mem_cons, List.not_mem_nil, or_false] at hq
        rcases hq with rfl | rfl | rfl | rfl | rfl <;> (cases e; simp)))
      (fun _ => rfl) (by rfl) (by kernel_rfl)
    exact callOK_run 400 [hG 5 3 l1] (by kernel_rfl) (by kernel_rfl)
end Go.Proofs.YtnkghdakjdhhdaaGreat
end
section
namespace Go.Sx
open Go.RowKit Go.Tk Go.Lib Go.Shelf Go.Vc Go.Maps
open Go.ChangeMaps (setBlock heap_setBlock_same)
section
variable {P : Program} {κ : Type} [DecidableEq κ] {kt t e : TypeId}
def CurAt (K : KeyKind P kt κ) (w : World) (r m : Nat) (p : κ × Value) : Prop :=
  ∃ es clock since seen e, w.heap[r]? = some (.mapIter (some m) since (Array.push seen e.born) clock) ∧ w.heap[m]? = some (.map es clock) ∧ e ∈ es.toList ∧ (es.toList.map (·.born)).Nodup ∧ e.key = K.kv p.1 ∧ e.val = p.2
theorem CurAt.entry {K : KeyKind P kt κ} {w : World} {r m : Nat} {p : κ × Value} (h : CurAt K w r m p) : (Instr.entry (.pointer (some ⟨r, 0, none⟩))).run P w = .ok (.tuple #[K.kv p.1, p.2]) w := by
  obtain ⟨es, clock, since, seen, e, h1, h2, h3, h4, h5, h6⟩ := h
  rw [run_entry_at w r m since seen es clock e h1 h2 h3 h4, h5, h6]
omit [DecidableEq κ] in
theorem Ranging.perm {K : KeyKind P kt κ} {w : World} {r b : Nat} {L left left' : List (κ × Value)} (h : Ranging K w r b L left) (hp : left.Perm left') : Ranging K w r b L left' := by
  obtain ⟨es, clock, since, seen, hne, hr, hb, h1, h2, h3, h4, h5, h6, h7, h8, h9⟩ := h
  exact ⟨es, clock, since, seen, hne, hr, hb, h1, h2, h3, h4, h5, h6, h7, h8.trans (hp.map _), fun p hp' => h9 p (hp.mem_iff.2 hp')⟩
end
end Go.Sx
end
section
namespace Go.Proofs.YtnkghdakjdhhdaaGreat
open Go.RowKit Go.Lib Go.Tk Go.Shelf Go.Vc Go.Sx
structure BkA where
  d : Nat
  o : Nat
  h : Nat
def bookF (B : BookV) : CF := fun b _ => exC fun (a : BkA) => allC [boxE none b #[.int .u8 B.self, .int .i64 B.n, .map (some a.d), .map (some a.o), .map (some a.h)], docsX B.docs a.d undef, mapT kidK ownW B.owns a.o undef, mapT kidK heldW B.helds a.h undef]
def bkS (B : BookV) (s : Nat) : Heap := [((s, 0), .box none [.val (.int .u8 B.self), .val (.int .i64 B.n), .map s 1, .map s 2, .map s 3]), ((s, 1), .fam (docsX B.docs)), ((s, 2), ownsF B.owns), ((s, 3), heldsF B.helds)]
def bkC (B : BookV) : Heap := [((0, 0), .fam (bookF B))]
theorem bk_packs (B : BookV) : Packs (bookF B) (bkS B) 3 where
  opens := fun b v R w h => by
    obtain ⟨a, h1⟩ := h.ex
    have h2 := h1.all
    refine ⟨fun k => match k with
      | 0 => (b, v)
      | 1 => (a.d, undef)
      | 2 => (a.o, undef)
      | _ => (a.h, undef), rfl, fun ε he => ?_⟩
    have e0 := he 0 (by decide)
    have e1 := he 1 (by decide)
    have e2 := he 2 (by decide)
    have e3 := he 3 (by decide)
    simp only [bkS, hden, List.map_cons, List.map_nil, SC.den, SV.dens, SV.den, ownsF, heldsF, e0, e1, e2, e3]
    exact h2
  shuts := fun s ε R w h => by
    have h1 : Mem ([boxE none (ε s 0).1 #[.int .u8 B.self, .int .i64 B.n, .map (some (ε s 1).1), .map (some (ε s 2).1), .map (some (ε s 3).1)], docsX B.docs (ε s 1).1 undef, mapT kidK ownW B.owns (ε s 2).1 undef, mapT kidK heldW B.helds (ε s 3).1 undef] ++ R) w := h
    exact Mem.in_ex ⟨(ε s 1).1, (ε s 2).1, (ε s 3).1⟩ h1.in_all
theorem shut {f : Nat} {args : List SV} {rd post : Heap} {ret : SV} {B B' : BookV} (h : CallOK Tryz.prog f args rd (bkH (docsX B.docs) B) ret (bkH (docsX B'.docs) B' ++ post)) (h1 : SV.oks (noIn 3) args = true) (h2 : hok (noIn 3) rd = true) (h3 : ret.ok (noIn 3) = true) (h4 : hok (noIn 3) post = true) :
    CallOK Tryz.prog f args rd (bkC B) ret (bkC B' ++ post) := by
  have e : CallOK Tryz.prog f args [] (bkS B 0 ++ rd) ret (bkS B' 0 ++ (rd ++ post)) := by
    have h5 := (h.of_rd.pre_mono (pre' := bkS B 0 ++ rd) (fun ε R w hM => ?_)).post_mono (post' := bkS B' 0 ++ (rd ++ post)) (fun ε R w hM => ?_)
    · exact h5
    · rw [hden_append] at hM ⊢
      exact mem_perm (List.Perm.append_right R List.perm_append_comm) hM
    · rw [hden_append, hden_append] at hM
      rw [hden_append, hden_append]
      refine mem_perm (List.Perm.append_right R ?_) hM
      rw [← List.append_assoc, ← List.append_assoc]
      exact List.Perm.append_right _ List.perm_append_comm
  have h6 := CallOK.pack (bk_packs B) (bk_packs B') e h1 h2 h3 (by unfold hok at h2 h4 ⊢; rw [List.all_append, h2, h4]; rfl)
  refine CallOK.to_rd ((h6.pre_mono (pre' := rd ++ bkC B) (fun ε R w hM => ?_)).post_mono (post' := rd ++ (bkC B' ++ post)) (fun ε R w hM => ?_))
  · rw [hden_append] at hM
    have := mem_perm (List.Perm.append_right R List.perm_append_comm) hM
    exact this
  · have hM : Mem ((hden ε (bkC B') ++ hden ε (rd ++ post)) ++ R) w := hM
    rw [hden_append] at hM
    rw [hden_append, hden_append]
    refine mem_perm (List.Perm.append_right R ?_) hM
    rw [← List.append_assoc, ← List.append_assoc]
    exact List.Perm.append_right _ List.perm_append_comm
theorem shutR {f : Nat} {args : List SV} {ret : SV} {B : BookV} (h : CallOK Tryz.prog f args (bkH (docsX B.docs) B) [] ret []) (h1 : SV.oks (noIn 3) args = true) (h3 : ret.ok (noIn 3) = true) : CallOK Tryz.prog f args (bkC B) [] ret [] :=
  CallOK.to_rd (shut (B := B) (B' := B) (rd := []) (post := []) h.of_rd h1 rfl h3 rfl)
theorem own_c (B : BookV) {k : Kid} (hk : KidOk k) : CallOK Tryz.prog OwnF [.ptr 0 0 0, .agg (kidS k)] (bkC B) [] (.tup [.agg (ownS ((lkt B.owns k).getD own0)), eN (noneE (lkt B.owns k).isSome)]) [] := shutR (own_w (docsX B.docs) B hk) rfl rfl
theorem held_c (B : BookV) {k : Kid} (hk : KidOk k) : CallOK Tryz.prog HeldF [.ptr 0 0 0, .agg (kidS k)] (bkC B) [] (.tup [.agg (heldS ((lkt B.helds k).getD held0)), eN (noneE (lkt B.helds k).isSome)]) [] := shutR (held_w (docsX B.docs) B hk) rfl rfl
theorem setO_docs (B : BookV) (k : Kid) (o : OwnV) : (B.setO k o).docs = B.docs := by unfold BookV.setO; cases (lkt B.owns k).isSome <;> rfl
theorem setH_docs (B : BookV) (k : Kid) (h : HeldV) : (B.setH k h).docs = B.docs := by unfold BookV.setH; cases decide (B.setHE k = 0) <;> rfl
theorem setOwn_c (B : BookV) {k : Kid} (hk : KidOk k) (o : OwnV) : CallOK Tryz.prog SetOwnF [.ptr 0 0 0, .agg (kidS k), .agg (ownS o)] [] (bkC B) (eN (noneE (lkt B.owns k).isSome)) (bkC (B.setO k o)) := by
  have h := setOwn_w (docsX B.docs) B hk o
  rw [← setO_docs B k o] at h
  exact shut (post := []) (by rw [setO_docs] at h; rw [setO_docs]; exact h) rfl rfl rfl rfl
theorem setHeld_c (B : BookV) {k : Kid} (hk : KidOk k) (x : HeldV) : CallOK Tryz.prog SetHeldF [.ptr 0 0 0, .agg (kidS k), .agg (heldS x)] [] (bkC B) (eN (B.setHE k)) (bkC (B.setH k x)) := by
  have h := setHeld_w (docsX B.docs) B hk x
  exact shut (post := []) (by rw [setH_docs]; exact h) rfl rfl rfl rfl
theorem issue_noC (F : CF) {B : BookV} (hb : BookOk B) {s : SaleV} {A : SaleA} (ok : SaleOk s) (hl : ∀ b v, Rd (F b v) A.la (cellsL encLeg s.legs)) (ht : ∀ b v, Rd (F b v) A.ta (cellsL encTax s.taxes)) (h1 : SlOk A.la s.legs.length A.lc) (h2 : SlOk A.ta s.taxes.length A.tc) (hm : B.issE s ≠ 0) :
    CallOK Tryz.prog IssueF [.ptr 0 0 0, .agg (salS s (.val (.slice A.la s.legs.length A.lc)) (.val (.slice A.ta s.taxes.length A.tc)))] [((0, 9), .fam F)] (bkC B) (.tup [.agg (docS doc0 nilS nilS nilS), eN (B.issE s)]) (bkC B) :=
  shut (post := []) (B' := B) (issue_no F hb ok hl ht h1 h2 hm) rfl rfl rfl rfl
theorem issue_okC (F : CF) {B : BookV} (hb : BookOk B) {s : SaleV} {A : SaleA} (ok : SaleOk s) (hl : ∀ b v, Rd (F b v) A.la (cellsL encLeg s.legs)) (ht : ∀ b v, Rd (F b v) A.ta (cellsL encTax s.taxes)) (h1 : SlOk A.la s.legs.length A.lc) (h2 : SlOk A.ta s.taxes.length A.tc) (hm : B.issE s = 0) :
    CallOK Tryz.prog IssueF [.ptr 0 0 0, .agg (salS s (.val (.slice A.la s.legs.length A.lc)) (.val (.slice A.ta s.taxes.length A.tc)))] [((0, 9), .fam F)] (bkC B) (.tup [.agg (docS (docMade B.nextT s) (.raw 1 0) (.raw 1 1) (.raw 1 2)), eN 0]) (bkC (B.issued s) ++ docR (docMade B.nextT s)) :=
  shut (issue_ok F hb ok hl ht h1 h2 hm) rfl rfl rfl rfl
def NewF : Nat := 18
def bookE (self n : Int) : Int := bif decide (n < 2) || (decide (8 < n) || decide (n ≤ self)) then 1 else 0
def bookNew (self n : Int) : BookV := ⟨self, n, [], [], []⟩
theorem new_noC {self n : Int} (hs : 0 ≤ self ∧ self ≤ 255) (h : bookE self n ≠ 0) : CallOK Tryz.prog NewF [.val (.int .u8 self), .val (.int .i64 n)] [] [] (.tup [.val (.pointer none), eN 1]) [] := by
  have w1 : IntKind.i64.wrap self = self := wr_i64 (by omega)
  rcases Bool.eq_false_or_eq_true (decide (n < 2)) with e1 | e1
  · exact callOK_run 400 [hB 1 1 _ _ e1] (by kernel_rfl) (by kernel_rfl)
  rcases Bool.eq_false_or_eq_true (decide (8 < n)) with e2 | e2
  · exact callOK_run 400 [hB 1 1 _ _ e1, hB 1 4 _ _ e2] (by kernel_rfl) (by kernel_rfl)
  rcases Bool.eq_false_or_eq_true (decide (n ≤ self)) with e3 | e3
  · exact callOK_run 400 [hB 1 1 _ _ e1, hB 1 4 _ _ e2, hI 1 8 IntKind.i64 _ _ w1, hB 1 10 _ _ e3] (by kernel_rfl) (by kernel_rfl)
  · exact absurd (by unfold bookE; rw [e1, e2, e3]; rfl) h
theorem obj_map {kt : TypeId} {κ : Type} {K : KeyKind Tryz.prog kt κ} {α : Type} {enc : α → Value} {b : Nat} {v : Value} {S : Nat → Prop} {w : World} (h : (objM b []).at_ S w) : (mapT K enc [] b v).at_ S w := by
  obtain ⟨hb, es, clock, h1, h2, -, h4, h5⟩ := h
  exact ⟨hb, es, clock, h1, h2, by simp [ents], by simp [ents], h4, h5⟩
theorem obj_docs {b : Nat} {v : Value} {S : Nat → Prop} {w : World} (h : (objM b []).at_ S w) : (docsX [] b v).at_ S w :=
  ⟨⟨[], rfl⟩, ⟨h.1, (obj_map (K := tidK) (enc := docW) (v := v) h).2⟩, fun _ => False, fun k hk => hk.elim, fun p hp => (by cases hp), fun p hp => (by cases hp)⟩
def newS (self n : Int) : Heap := [((1, 0), .box none [.val (.int .u8 self), .val (.int .i64 n), .map 1 1, .map 1 2, .map 1 3]), ((1, 1), .obj [] 0), ((1, 2), .obj [] 0), ((1, 3), .obj [] 0)]
theorem new_shut (self n : Int) (ε : Env) (R : List Chunk) (w : World) (h : Mem (hden ε (newS self n) ++ R) w) : Mem (bookF (bookNew self n) (ε 1 0).1 (ε 1 0).2 :: R) w := by
  refine (bk_packs (bookNew self n)).shuts 1 ε R w ?_
  have h0 : Mem (boxE none (ε 1 0).1 #[.int .u8 self, .int .i64 n, .map (some (ε 1 1).1), .map (some (ε 1 2).1), .map (some (ε 1 3).1)] :: objM (ε 1 1).1 [] :: objM (ε 1 2).1 [] :: objM (ε 1 3).1 [] :: R) w := h
  have h1 := (h0.front 1 rfl).weaken (c' := docsX [] (ε 1 1).1 (ε 1 1).2) (fun S hS => obj_docs hS)
  have h2 := (h1.front 2 rfl).weaken (c' := mapT kidK ownW [] (ε 1 2).1 (ε 1 2).2) (fun S hS => obj_map hS)
  have h3 := (h2.front 3 rfl).weaken (c' := mapT kidK heldW [] (ε 1 3).1 (ε 1 3).2) (fun S hS => obj_map hS)
  exact (((h3.front 0 rfl).front 1 rfl).front 2 rfl).front 3 rfl
theorem new_okC {self n : Int} (hs : 0 ≤ self ∧ self ≤ 255) (h : bookE self n = 0) : CallOK Tryz.prog NewF [.val (.int .u8 self), .val (.int .i64 n)] [] [] (.tup [.ptr 1 0 0, eN 0]) [((1, 0), .fam (bookF (bookNew self n)))] := by
  have w1 : IntKind.i64.wrap self = self := wr_i64 (by omega)
  have h0 : (decide (n < 2) || (decide (8 < n) || decide (n ≤ self))) = false := by
    cases hb : (decide (n < 2) || (decide (8 < n) || decide (n ≤ self))) with
    | false => rfl
    | true => unfold bookE at h; rw [hb] at h; cases h
  simp only [Bool.or_eq_false_iff] at h0
  obtain ⟨e1, e2, e3⟩ := h0
  have key : CallOK Tryz.prog NewF [.val (.int .u8 self), .val (.int .i64 n)] [] [] (.tup [.ptr 1 0 0, eN 0]) (newS self n) := callOK_run 400 [hB 1 1 _ _ e1, hB 1 4 _ _ e2, hI 1 8 IntKind.i64 _ _ w1, hB 1 10 _ _ e3] (by kernel_rfl) (by kernel_rfl)
  exact key.post_mono (post' := [((1, 0), .fam (bookF (bookNew self n)))]) (new_shut self n)
end Go.Proofs.YtnkghdakjdhhdaaGreat
end
section
namespace Go.Proofs.YtnkghdakjdhhdaaGreat
open Go.RowKit Go.Lib Go.Tk Go.Shelf Go.Vc Go.Sx
theorem shutD {f : Nat} {args : List SV} {rd post : Heap} {ret : SV} {B B' : BookV} (hd : B'.docs = B.docs) (h : CallOK Tryz.prog f args rd (bkH (docsX B.docs) B) ret (bkH (docsX B.docs) B' ++ post)) (h1 : SV.oks (noIn 3) args = true) (h2 : hok (noIn 3) rd = true) (h3 : ret.ok (noIn 3) = true) (h4 : hok (noIn 3) post = true) :
    CallOK Tryz.prog f args rd (bkC B) ret (bkC B' ++ post) := shut (by rw [hd]; exact h) h1 h2 h3 h4
theorem want_docs (B : BookV) (k : Kid) : (wantQ B k).b.docs = B.docs := by
  unfold wantQ
  cases ((lkt B.helds k).isSome && (((lkt B.helds k).getD held0).here || ((lkt B.helds k).getD held0).wanted)) <;> cases decide (B.setHE k = 0) <;> first | rfl | exact setH_docs B k _
theorem hwant_docs (B : BookV) (c : Int) (k : Kid) : (hwantQ B c k).b.docs = B.docs := by
  unfold hwantQ
  dsimp only
  cases (lkt B.owns k).isSome <;> cases ((lkt B.owns k).getD own0).away <;> cases decide (((lkt B.owns k).getD own0).k.l.c = c) <;> cases decide (((lkt B.owns k).getD own0).k.s = 1) <;> cases decide (((lkt B.owns k).getD own0).k.n = 4294967295) <;> first | rfl | exact setO_docs B k _
theorem hgrant_docs (B : BookV) (c : Int) (m : MsV) : (hgrantQ B c m).b.docs = B.docs := by
  unfold hgrantQ
  dsimp only
  cases (!decide (m.key.t.c = c) || isHeld B c m.key && (((lkt B.helds m.key).getD held0).here || decide (m.k.n ≤ ((lkt B.helds m.key).getD held0).k.n))) <;> cases decide (B.setHE m.key = 3) <;> first | rfl | exact setH_docs B _ _
theorem hrefH_docs (B : BookV) (c : Int) (k : Kid) : (hrefH B c k).docs = B.docs := by
  unfold hrefH
  cases isHeld B c k <;> first | rfl | exact setH_docs B _ _
theorem href_docs (B : BookV) (c : Int) (k : Kid) : (hrefB B c k).docs = B.docs := by
  unfold hrefB
  cases isAway (hrefH B c k) c k <;> first | exact hrefH_docs B c k | exact (setO_docs _ _ _).trans (hrefH_docs B c k)
theorem hrecall_docs (B : BookV) (c : Int) (k : Kid) : (hrecallQ B c k).b.docs = B.docs := by
  unfold hrecallQ
  dsimp only
  cases isHeld B c k <;> cases ((lkt B.helds k).getD held0).here <;> cases decide (((lkt B.helds k).getD held0).k.s = 1) <;> first | rfl | exact setH_docs B _ _
theorem hret_docs (B : BookV) (c : Int) (m : MsV) : (hretB B c m).docs = B.docs := by
  unfold hretB
  cases (isAway B c m.key && decide (((lkt B.owns m.key).getD own0).k.n = m.k.n)) <;> first | rfl | exact setO_docs B _ _
theorem hear_docs (B : BookV) (c : Int) (m : MsV) : (hearQ B c m).b.docs = B.docs := by
  unfold hearQ hearDo
  cases badHear B c m.kind <;> cases decide (m.kind = 1) <;> cases decide (m.kind = 2) <;> cases decide (m.kind = 3) <;> cases decide (m.kind = 4) <;> first | rfl | exact hwant_docs B c m.key | exact hgrant_docs B c m | exact href_docs B c m.key | exact hrecall_docs B c m.key | exact hret_docs B c m
theorem want_c (B : BookV) {k : Kid} (hk : KidOk k) : CallOK Tryz.prog WantF [.ptr 0 0 0, .agg (kidS k)] [] (bkC B) (.tup [.raw 1 0, eN (wantQ B k).e]) (bkC (wantQ B k).b ++ [((1, 0), outsC (wantQ B k).out)]) :=
  shutD (want_docs B k) (outs_of (want_w (docsX B.docs) B hk)) rfl rfl rfl rfl
theorem hear_c (B : BookV) {c : Int} (hc : 0 ≤ c ∧ c ≤ 255) (m : MsV) (hm : 0 ≤ m.kind ∧ m.kind ≤ 255) (hk : KidOk m.key) : CallOK Tryz.prog HearF [.ptr 0 0 0, .val (.int .u8 c), .agg (msS m)] [] (bkC B) (.tup [.raw 1 0, eN (hearQ B c m).e]) (bkC (hearQ B c m).b ++ [((1, 0), outsC (hearQ B c m).out)]) :=
  shutD (hear_docs B c m) (hear_w (docsX B.docs) B hc m hm hk) rfl rfl rfl rfl
end Go.Proofs.YtnkghdakjdhhdaaGreat
end
