/- Ho1, Ho2, Ho3. -/
import Derived.Test.YtifapcpcemigdaaGreatM775458c
set_option maxRecDepth 100000
set_option linter.unusedVariables false
set_option linter.unusedSimpArgs false
set_option linter.unusedSectionVars false
section
namespace Go.Proofs.YtifapcpcemigdaaGreat
open Go.RowKit Go.Lib Go.Tk Go.Shelf Go.Vc Go.Sx
def outsS : List OutV → List SV
  | [] => []
  | x :: l => outS x ++ outsS l
def outsR (l : List OutV) : SC := .row 134 13 l.length (.deep (outsS l)) []
def msR (m : MsV) : SC := .row 48 12 1 (.deep (msS m)) []
def outL (x : OutV) : List Value := .int .u8 x.dst :: msL x.m
def outsL : List OutV → List Value
  | [] => []
  | x :: l => outL x ++ outsL l
def outsC (l : List OutV) : SC := .row 134 13 l.length (.shal (outsL l)) []
theorem outs_dens (ε : Env) : ∀ l : List OutV, SV.dens ε (outsS l) = outsL l
  | [] => rfl
  | x :: l => by
    unfold outsS outsL
    rw [dens_append, outs_dens ε l]; rfl
theorem outs_den (l : List OutV) (ε : Env) (s k : Nat) : (outsR l).den ε s k = (outsC l).den ε s k := by
  unfold outsR outsC
  simp only [SC.den, SL.den, outs_dens]
theorem outs_of {P : Program} {f : Nat} {args : List SV} {rd pre H : Heap} {ret : SV} {l : List OutV} (h : CallOK P f args rd pre ret (H ++ [((1, 0), outsR l)])) : CallOK P f args rd pre ret (H ++ [((1, 0), outsC l)]) :=
  h.to_post fun ε => by
    rw [hden_append, hden_append]
    congr 1
    simp only [hden, List.map_cons, List.map_nil, outs_den]
structure HR where
  out : List OutV
  e : Int
  b : BookV
def HtellF : Nat := 137
def FreeF : Nat := 138
theorem htell_w (c : Int) (m : MsV) : CallOK Tryz.prog HtellF [.val (.int .u8 c), .raw 0 0] [((0, 0), msR m)] [] (.raw 1 0) [((1, 0), outsR [⟨c, m⟩])] := callOK_runU 400 [] (by kernel_rfl) (by kernel_rfl)
theorem free_w (s : Int) : CallOK Tryz.prog FreeF [.val (.int .u8 s)] [] [] (.val (.bool (decide (s = 1)))) [] := callOK_run 400 [] (by kernel_rfl) (by kernel_rfl)
def wantH (h : HeldV) : HeldV := { h with wanted := true }
def wantQ (B : BookV) (k : Kid) : HR :=
  bif (lkt B.helds k).isSome && (((lkt B.helds k).getD held0).here || ((lkt B.helds k).getD held0).wanted) then ⟨[], 6, B⟩
  else bif decide (B.setHE k = 0) then ⟨[⟨k.t.c, ⟨1, k, cpn0, 0, 0⟩⟩], 0, B.setH k (wantH ((lkt B.helds k).getD held0))⟩ else ⟨[], B.setHE k, B⟩
def WantF : Nat := 94
theorem want_w (F : CF) (B : BookV) {k : Kid} (hk : KidOk k) : CallOK Tryz.prog WantF [.ptr 0 0 0, .agg (kidS k)] [] (bkH F B) (.tup [.raw 1 0, eN (wantQ B k).e]) (bkH F (wantQ B k).b ++ [((1, 0), outsR (wantQ B k).out)]) := by
  have c1 := held_w F B hk
  have c2 := setHeld_w F B hk (wantH ((lkt B.helds k).getD held0))
  have c3 := htell_w k.t.c ⟨1, k, cpn0, 0, 0⟩
  have go : ∀ q, wantQ B k = q → CallOK Tryz.prog WantF [.ptr 0 0 0, .agg (kidS k)] [] (bkH F B) (.tup [.raw 1 0, eN q.e]) (bkH F q.b ++ [((1, 0), outsR q.out)]) → CallOK Tryz.prog WantF [.ptr 0 0 0, .agg (kidS k)] [] (bkH F B) (.tup [.raw 1 0, eN (wantQ B k).e]) (bkH F (wantQ B k).b ++ [((1, 0), outsR (wantQ B k).out)]) := fun q e h => e ▸ h
  have no2 : B.setHE k ≠ 0 → B.setH k (wantH ((lkt B.helds k).getD held0)) = B := fun e => by unfold BookV.setH; rw [decide_eq_false e]; rfl
  have fin : (((lkt B.helds k).isSome && (((lkt B.helds k).getD held0).here || ((lkt B.helds k).getD held0).wanted)) = false) → wantQ B k = bif decide (B.setHE k = 0) then ⟨[⟨k.t.c, ⟨1, k, cpn0, 0, 0⟩⟩], 0, B.setH k (wantH ((lkt B.helds k).getD held0))⟩ else ⟨[], B.setHE k, B⟩ := fun h => by unfold wantQ; rw [h]; rfl
  cases hl : lkt B.helds k with
  | none =>
    rw [hl] at c1 c2 no2 fin
    have f := fin rfl
    rcases Bool.eq_false_or_eq_true (decide (B.setHE k = 0)) with g | g
    · rw [g] at f
      have g0 := of_decide_eq_true g
      have g1 : (!decide (B.setHE k = 0)) = false := by rw [g]; rfl
      exact go _ f (callOK_run 400 [hC 3 2 c1, hC 7 3 c2, hI 7 3 IntKind.i64 _ _ g0, hC 10 6 c3] (by kernel_rfl) (by kernel_rfl))
    · rw [g] at f
      have g1 : (!decide (B.setHE k = 0)) = true := by rw [g]; rfl
      rw [no2 (of_decide_eq_false g)] at c2
      exact go _ f (callOK_run 400 [hC 3 2 c1, hC 7 3 c2, hB 8 1 _ _ g1] (by kernel_rfl) (by kernel_rfl))
  | some h =>
    rw [hl] at c1 c2 no2 fin
    have fin : (h.here || h.wanted) = false → wantQ B k = bif decide (B.setHE k = 0) then ⟨[⟨k.t.c, ⟨1, k, cpn0, 0, 0⟩⟩], 0, B.setH k (wantH h)⟩ else ⟨[], B.setHE k, B⟩ := fin
    have yes : (h.here || h.wanted) = true → wantQ B k = ⟨[], 6, B⟩ := fun e => by unfold wantQ; rw [hl]; show (bif true && (h.here || h.wanted) then _ else _) = _; rw [e]; rfl
    rcases Bool.eq_false_or_eq_true h.here with e1 | e1
    · exact go _ (yes (by rw [e1]; rfl)) (callOK_run 400 [hC 3 2 c1, hB 4 4 _ _ e1] (by kernel_rfl) (by kernel_rfl))
    rcases Bool.eq_false_or_eq_true h.wanted with e2 | e2
    · exact go _ (yes (by rw [e1, e2]; rfl)) (callOK_run 400 [hC 3 2 c1, hB 4 4 _ _ e1, hB 4 7 _ _ e2] (by kernel_rfl) (by kernel_rfl))
    have f := fin (by rw [e1, e2]; rfl)
    rcases Bool.eq_false_or_eq_true (decide (B.setHE k = 0)) with g | g
    · rw [g] at f
      have g1 : (!decide (B.setHE k = 0)) = false := by rw [g]; rfl
      exact go _ f (callOK_run 400 [hC 3 2 c1, hB 4 4 _ _ e1, hB 4 7 _ _ e2, hC 7 3 c2, hB 8 1 _ _ g1, hC 10 6 c3] (by kernel_rfl) (by kernel_rfl))
    · rw [g] at f
      have g1 : (!decide (B.setHE k = 0)) = true := by rw [g]; rfl
      rw [no2 (of_decide_eq_false g)] at c2
      exact go _ f (callOK_run 400 [hC 3 2 c1, hB 4 4 _ _ e1, hB 4 7 _ _ e2, hC 7 3 c2, hB 8 1 _ _ g1] (by kernel_rfl) (by kernel_rfl))
def goneH (h : HeldV) : HeldV := { h with here := false }
def GiveF : Nat := 139
def giveO (k : Kid) (h : HeldV) : OutV := ⟨k.t.c, ⟨5, k, h.k, 0, 0⟩⟩
theorem give_w (F : CF) (B : BookV) {k : Kid} (hk : KidOk k) (h : HeldV) : CallOK Tryz.prog GiveF [.ptr 0 0 0, .agg (kidS k), .agg (heldS h)] [] (bkH F B) (.raw 1 0) (bkH F (B.setH k (goneH h)) ++ [((1, 0), outsR [giveO k h])]) := by
  have c2 := setHeld_w F B hk (goneH h)
  have c3 := htell_w k.t.c ⟨5, k, h.k, 0, 0⟩
  exact callOK_run 400 [hC 2 3 c2, hC 3 8 c3] (by kernel_rfl) (by kernel_rfl)
def returnQ (B : BookV) (k : Kid) : HR :=
  bif !(lkt B.helds k).isSome then ⟨[], 4, B⟩
  else bif !((lkt B.helds k).getD held0).here then ⟨[], 160, B⟩
  else bif !decide (((lkt B.helds k).getD held0).k.s = 1) then ⟨[], 6, B⟩
  else ⟨[giveO k ((lkt B.helds k).getD held0)], 0, B.setH k (goneH ((lkt B.helds k).getD held0))⟩
def ReturnF : Nat := 95
theorem return_w (F : CF) (B : BookV) {k : Kid} (hk : KidOk k) : CallOK Tryz.prog ReturnF [.ptr 0 0 0, .agg (kidS k)] [] (bkH F B) (.tup [.raw 1 0, eN (returnQ B k).e]) (bkH F (returnQ B k).b ++ [((1, 0), outsR (returnQ B k).out)]) := by
  have c1 := held_w F B hk
  unfold returnQ
  cases hl : lkt B.helds k with
  | none =>
    rw [hl] at c1
    exact callOK_run 400 [hC 1 2 c1] (by kernel_rfl) (by kernel_rfl)
  | some h =>
    rw [hl] at c1
    have c2 := give_w F B hk h
    have c3 := free_w h.k.s
    show CallOK _ _ _ _ _ (.tup [.raw 1 0, eN (bif !h.here then (⟨[], 160, B⟩ : HR) else bif !decide (h.k.s = 1) then ⟨[], 6, B⟩ else ⟨[giveO k h], 0, B.setH k (goneH h)⟩).e]) (bkH F (bif !h.here then (⟨[], 160, B⟩ : HR) else bif !decide (h.k.s = 1) then ⟨[], 6, B⟩ else ⟨[giveO k h], 0, B.setH k (goneH h)⟩).b ++ [((1, 0), outsR (bif !h.here then (⟨[], 160, B⟩ : HR) else bif !decide (h.k.s = 1) then ⟨[], 6, B⟩ else ⟨[giveO k h], 0, B.setH k (goneH h)⟩).out)])
    rcases Bool.eq_false_or_eq_true h.here with e1 | e1 <;> rcases Bool.eq_false_or_eq_true (decide (h.k.s = 1)) with e2 | e2 <;> simp only [e1, e2] <;> exact callOK_run 400 [hC 1 2 c1, hB 4 1 _ _ e1, hC 6 3 c3, hB 6 3 _ _ e2, hC 8 3 c2] (by kernel_rfl) (by kernel_rfl)
def askO (o : OwnV) : OwnV := { o with asked := true }
def recallQ (B : BookV) (k : Kid) : HR :=
  let o := (lkt B.owns k).getD own0
  bif !(lkt B.owns k).isSome then ⟨[], 4, B⟩
  else bif !o.away || (o.paid || o.asked) then ⟨[], 6, B⟩
  else ⟨[⟨o.dst, ⟨4, k, cpn0, 0, 0⟩⟩], 0, B.setO k (askO o)⟩
def RecallF : Nat := 96
theorem recall_w (F : CF) (B : BookV) {k : Kid} (hk : KidOk k) : CallOK Tryz.prog RecallF [.ptr 0 0 0, .agg (kidS k)] [] (bkH F B) (.tup [.raw 1 0, eN (recallQ B k).e]) (bkH F (recallQ B k).b ++ [((1, 0), outsR (recallQ B k).out)]) := by
  have c1 := own_w F B hk
  unfold recallQ
  cases hl : lkt B.owns k with
  | none =>
    rw [hl] at c1
    exact callOK_run 400 [hC 1 2 c1] (by kernel_rfl) (by kernel_rfl)
  | some o =>
    rw [hl] at c1
    have c2 := setOwn_w F B hk (askO o)
    have c3 := htell_w o.dst ⟨4, k, cpn0, 0, 0⟩
    simp only [Option.getD_some]
    rcases Bool.eq_false_or_eq_true o.away with e1 | e1 <;> rcases Bool.eq_false_or_eq_true o.paid with e2 | e2 <;> rcases Bool.eq_false_or_eq_true o.asked with e3 | e3 <;> simp only [e1, e2, e3] <;> exact callOK_run 400 [hC 1 2 c1, hB 4 1 _ _ e1, hB 4 5 _ _ e2, hB 4 9 _ _ e3, hC 7 3 c2, hC 8 5 c3] (by kernel_rfl) (by kernel_rfl)
def hearS (c : Int) (m : MsV) : List SV := .ptr 0 0 0 :: .val (.int .u8 c) :: msS m
def HrefuseF : Nat := 143
def HheldF : Nat := 144
def HawayF : Nat := 145
def refO (c : Int) (k : Kid) (e : Int) : OutV := ⟨c, ⟨3, k, cpn0, 0, e⟩⟩
theorem hrefuse_w (F : CF) (B : BookV) (c : Int) (m : MsV) (e : Int) : CallOK Tryz.prog HrefuseF [.agg (hearS c m), eN e] (bkH F B) [] (.raw 1 0) [((1, 0), outsR [refO c m.key e])] := by
  have c3 := htell_w c ⟨3, m.key, cpn0, 0, e⟩
  exact callOK_run 400 [hC 1 8 c3] (by kernel_rfl) (by kernel_rfl)
def isHeld (B : BookV) (c : Int) (k : Kid) : Bool := (lkt B.helds k).isSome && decide (k.t.c = c)
def isAway (B : BookV) (c : Int) (k : Kid) : Bool := (lkt B.owns k).isSome && (((lkt B.owns k).getD own0).away && decide (((lkt B.owns k).getD own0).dst = c))
theorem hheld_w (F : CF) (B : BookV) (c : Int) (m : MsV) (hk : KidOk m.key) : CallOK Tryz.prog HheldF [.agg (hearS c m)] (bkH F B) [] (.tup [.agg (heldS ((lkt B.helds m.key).getD held0)), .val (.bool (isHeld B c m.key))]) [] := by
  have c1 := held_w F B hk
  unfold isHeld
  cases hl : lkt B.helds m.key with
  | none =>
    rw [hl] at c1
    exact callOK_run 400 [hC 1 5 c1] (by kernel_rfl) (by kernel_rfl)
  | some h =>
    rw [hl] at c1
    rcases Bool.eq_false_or_eq_true (decide (m.key.t.c = c)) with e1 | e1 <;> simp only [e1] <;> exact callOK_run 400 [hC 1 5 c1, hB 2 11 _ _ e1] (by kernel_rfl) (by kernel_rfl)
theorem haway_w (F : CF) (B : BookV) (c : Int) (m : MsV) (hk : KidOk m.key) : CallOK Tryz.prog HawayF [.agg (hearS c m)] (bkH F B) [] (.tup [.agg (ownS ((lkt B.owns m.key).getD own0)), .val (.bool (isAway B c m.key))]) [] := by
  have c1 := own_w F B hk
  unfold isAway
  cases hl : lkt B.owns m.key with
  | none =>
    rw [hl] at c1
    exact callOK_run 400 [hC 1 5 c1] (by kernel_rfl) (by kernel_rfl)
  | some o =>
    rw [hl] at c1
    simp only [Option.getD_some]
    rcases Bool.eq_false_or_eq_true o.away with e1 | e1 <;> rcases Bool.eq_false_or_eq_true (decide (o.dst = c)) with e2 | e2 <;> simp only [e1, e2] <;> exact callOK_run 400 [hC 1 5 c1, hB 2 5 _ _ e1, hB 2 12 _ _ e2] (by kernel_rfl) (by kernel_rfl)
end Go.Proofs.YtifapcpcemigdaaGreat
end
section
namespace Go.Proofs.YtifapcpcemigdaaGreat
open Go.RowKit Go.Lib Go.Tk Go.Shelf Go.Vc Go.Sx
def givenO (o : OwnV) (c : Int) : OwnV := { o with k := { o.k with n := IntKind.u32.wrap (o.k.n + 1) }, away := true, dst := c }
def hwantQ (B : BookV) (c : Int) (k : Kid) : HR :=
  let o := (lkt B.owns k).getD own0
  bif !(lkt B.owns k).isSome then ⟨[refO c k 4], 0, B⟩
  else bif o.away then ⟨[refO c k 160], 0, B⟩
  else bif !decide (o.k.l.c = c) then ⟨[refO c k 1], 0, B⟩
  else bif !decide (o.k.s = 1) then ⟨[refO c k 6], 0, B⟩
  else bif decide (o.k.n = 4294967295) then ⟨[refO c k 3], 0, B⟩
  else ⟨[⟨c, ⟨2, k, (givenO o c).k, 0, 0⟩⟩], 0, B.setO k (givenO o c)⟩
def HwantF : Nat := 103
theorem hwant_w (F : CF) (B : BookV) (c : Int) (m : MsV) (hk : KidOk m.key) : CallOK Tryz.prog HwantF [.agg (hearS c m)] [] (bkH F B) (.raw 1 0) (bkH F (hwantQ B c m.key).b ++ [((1, 0), outsR (hwantQ B c m.key).out)]) := by
  have c1 := own_w F B hk
  have r1 := hrefuse_w F B c m 4
  have r2 := hrefuse_w F B c m 160
  have r3 := hrefuse_w F B c m 1
  have r4 := hrefuse_w F B c m 6
  have r5 := hrefuse_w F B c m 3
  unfold hwantQ
  cases hl : lkt B.owns m.key with
  | none =>
    rw [hl] at c1
    exact callOK_run 400 [hC 1 5 c1, hC 3 1 r1] (by kernel_rfl) (by kernel_rfl)
  | some o =>
    rw [hl] at c1
    have c2 := setOwn_w F B hk (givenO o c)
    have c3 := free_w o.k.s
    have c4 := htell_w c ⟨2, m.key, (givenO o c).k, 0, 0⟩
    simp only [Option.getD_some]
    rcases Bool.eq_false_or_eq_true o.away with e1 | e1
    · simp only [e1]; exact callOK_run 400 [hC 1 5 c1, hB 4 1 _ _ e1, hC 5 1 r2] (by kernel_rfl) (by kernel_rfl)
    rcases Bool.eq_false_or_eq_true (decide (o.k.l.c = c)) with e2 | e2
    · have e2' : (!decide (o.k.l.c = c)) = false := by rw [e2]; rfl
      rcases Bool.eq_false_or_eq_true (decide (o.k.s = 1)) with e3 | e3 <;> rcases Bool.eq_false_or_eq_true (decide (o.k.n = 4294967295)) with e4 | e4 <;> simp only [e1, e2, e3, e4] <;> exact callOK_run 400 [hC 1 5 c1, hB 4 1 _ _ e1, hB 6 6 _ _ e2', hC 8 3 c3, hB 8 3 _ _ e3, hC 9 1 r4, hB 10 3 _ _ e4, hC 14 6 c2, hC 15 9 c4, hC 11 1 r5] (by kernel_rfl) (by kernel_rfl)
    · have e2' : (!decide (o.k.l.c = c)) = true := by rw [e2]; rfl
      simp only [e1, e2]; exact callOK_run 400 [hC 1 5 c1, hB 4 1 _ _ e1, hB 6 6 _ _ e2', hC 7 1 r3] (by kernel_rfl) (by kernel_rfl)
def newH (k : Cpn) : HeldV := ⟨k, true, false, false, false⟩
def hgrantQ (B : BookV) (c : Int) (m : MsV) : HR :=
  let h := (lkt B.helds m.key).getD held0
  bif !decide (m.key.t.c = c) || isHeld B c m.key && (h.here || decide (m.k.n ≤ h.k.n)) then ⟨[], 0, B⟩
  else bif decide (B.setHE m.key = 3) then ⟨[], 3, B⟩ else ⟨[], 0, B.setH m.key (newH m.k)⟩
def HgrantF : Nat := 105
theorem hgrant_w (F : CF) (B : BookV) (c : Int) (m : MsV) (hk : KidOk m.key) : CallOK Tryz.prog HgrantF [.agg (hearS c m)] [] (bkH F B) (eN (hgrantQ B c m).e) (bkH F (hgrantQ B c m).b) := by
  have c1 := hheld_w F B c m hk
  have c2 := setHeld_w F B hk (newH m.k)
  have no2 : B.setHE m.key = 3 → B.setH m.key (newH m.k) = B := fun e => by unfold BookV.setH; rw [e]; rfl
  unfold hgrantQ
  rcases Bool.eq_false_or_eq_true (decide (m.key.t.c = c)) with e1 | e1
  · have e1' : (!decide (m.key.t.c = c)) = false := by rw [e1]; rfl
    rcases Bool.eq_false_or_eq_true (decide (B.setHE m.key = 3)) with e5 | e5
    · rw [no2 (of_decide_eq_true e5)] at c2
      rcases Bool.eq_false_or_eq_true (isHeld B c m.key) with e2 | e2 <;> rcases Bool.eq_false_or_eq_true ((lkt B.helds m.key).getD held0).here with e3 | e3 <;> rcases Bool.eq_false_or_eq_true (decide (m.k.n ≤ ((lkt B.helds m.key).getD held0).k.n)) with e4 | e4 <;> simp only [e1, e2, e3, e4, e5] <;> (have e6 := of_decide_eq_true e5) <;> exact callOK_run 400 [hC 1 1 c1, hB 1 4 _ _ e2, hB 2 7 _ _ e1', hB 2 12 _ _ e3, hB 2 21 _ _ e4, hC 4 9 c2, hI 4 9 IntKind.i64 _ _ e6] (by kernel_rfl) (by kernel_rfl)
    · rcases Bool.eq_false_or_eq_true (isHeld B c m.key) with e2 | e2 <;> rcases Bool.eq_false_or_eq_true ((lkt B.helds m.key).getD held0).here with e3 | e3 <;> rcases Bool.eq_false_or_eq_true (decide (m.k.n ≤ ((lkt B.helds m.key).getD held0).k.n)) with e4 | e4 <;> simp only [e1, e2, e3, e4, e5] <;> exact callOK_run 400 [hC 1 1 c1, hB 1 4 _ _ e2, hB 2 7 _ _ e1', hB 2 12 _ _ e3, hB 2 21 _ _ e4, hC 4 9 c2, hB 5 1 _ _ e5] (by kernel_rfl) (by kernel_rfl)
  · have e1' : (!decide (m.key.t.c = c)) = true := by rw [e1]; rfl
    simp only [e1]; exact callOK_run 400 [hC 1 1 c1, hB 2 7 _ _ e1'] (by kernel_rfl) (by kernel_rfl)
def notH (h : HeldV) : HeldV := { h with wanted := false }
def notO (o : OwnV) : OwnV := { o with asked := false }
def hrefH (B : BookV) (c : Int) (k : Kid) : BookV := bif isHeld B c k then B.setH k (notH ((lkt B.helds k).getD held0)) else B
def hrefB (B : BookV) (c : Int) (k : Kid) : BookV := bif isAway (hrefH B c k) c k then (hrefH B c k).setO k (notO ((lkt (hrefH B c k).owns k).getD own0)) else hrefH B c k
def HrefusedF : Nat := 107
def noS : SV := .tup []
theorem hrefused_w (F : CF) (B : BookV) (c : Int) (m : MsV) (hk : KidOk m.key) : CallOK Tryz.prog HrefusedF [.agg (hearS c m)] [] (bkH F B) noS (bkH F (hrefB B c m.key)) := by
  have c1 := hheld_w F B c m hk
  have c2 := setHeld_w F B hk (notH ((lkt B.helds m.key).getD held0))
  have c3 := haway_w F (hrefH B c m.key) c m hk
  have c4 := setOwn_w F (hrefH B c m.key) hk (notO ((lkt (hrefH B c m.key).owns m.key).getD own0))
  rcases Bool.eq_false_or_eq_true (isHeld B c m.key) with e1 | e1
  · have e : hrefH B c m.key = B.setH m.key (notH ((lkt B.helds m.key).getD held0)) := by unfold hrefH; rw [e1]; rfl
    unfold hrefB
    rw [e] at c3 c4 ⊢
    rcases Bool.eq_false_or_eq_true (isAway (B.setH m.key (notH ((lkt B.helds m.key).getD held0))) c m.key) with e2 | e2 <;> simp only [e2] <;> exact callOK_run 400 [hC 1 1 c1, hB 1 4 _ _ e1, hC 4 6 c2, hC 5 1 c3, hB 5 4 _ _ e2, hC 8 6 c4] (by kernel_rfl) (by kernel_rfl)
  · have e : hrefH B c m.key = B := by unfold hrefH; rw [e1]; rfl
    unfold hrefB
    rw [e] at c3 c4 ⊢
    rcases Bool.eq_false_or_eq_true (isAway B c m.key) with e2 | e2 <;> simp only [e2] <;> exact callOK_run 400 [hC 1 1 c1, hB 1 4 _ _ e1, hC 5 1 c3, hB 5 4 _ _ e2, hC 8 6 c4] (by kernel_rfl) (by kernel_rfl)
def hrecallQ (B : BookV) (c : Int) (k : Kid) : HR :=
  let h := (lkt B.helds k).getD held0
  bif !isHeld B c k || !h.here then ⟨[], 0, B⟩
  else bif !decide (h.k.s = 1) then ⟨[refO c k 6], 0, B⟩
  else ⟨[giveO k h], 0, B.setH k (goneH h)⟩
def HrecallF : Nat := 109
theorem hrecall_w (F : CF) (B : BookV) (c : Int) (m : MsV) (hk : KidOk m.key) : CallOK Tryz.prog HrecallF [.agg (hearS c m)] [] (bkH F B) (.raw 1 0) (bkH F (hrecallQ B c m.key).b ++ [((1, 0), outsR (hrecallQ B c m.key).out)]) := by
  have c1 := hheld_w F B c m hk
  have c2 := free_w ((lkt B.helds m.key).getD held0).k.s
  have c3 := hrefuse_w F B c m 6
  have c4 := give_w F B hk ((lkt B.helds m.key).getD held0)
  unfold hrecallQ
  rcases Bool.eq_false_or_eq_true (isHeld B c m.key) with e1 | e1 <;> rcases Bool.eq_false_or_eq_true ((lkt B.helds m.key).getD held0).here with e2 | e2 <;> rcases Bool.eq_false_or_eq_true (decide (((lkt B.helds m.key).getD held0).k.s = 1)) with e3 | e3 <;> simp only [e1, e2, e3] <;> exact callOK_run 400 [hC 1 1 c1, hB 1 4 _ _ e1, hB 2 4 _ _ e2, hC 4 3 c2, hB 4 3 _ _ e3, hC 5 1 c3, hC 6 6 c4] (by kernel_rfl) (by kernel_rfl)
def backO (o : OwnV) : OwnV := { o with away := false, asked := false }
def hretB (B : BookV) (c : Int) (m : MsV) : BookV := bif isAway B c m.key && decide (((lkt B.owns m.key).getD own0).k.n = m.k.n) then B.setO m.key (backO ((lkt B.owns m.key).getD own0)) else B
def HreturnedF : Nat := 111
theorem hreturned_w (F : CF) (B : BookV) (c : Int) (m : MsV) (hk : KidOk m.key) : CallOK Tryz.prog HreturnedF [.agg (hearS c m)] [] (bkH F B) noS (bkH F (hretB B c m)) := by
  have c1 := haway_w F B c m hk
  have c2 := setOwn_w F B hk (backO ((lkt B.owns m.key).getD own0))
  unfold hretB
  rcases Bool.eq_false_or_eq_true (isAway B c m.key) with e1 | e1 <;> rcases Bool.eq_false_or_eq_true (decide (((lkt B.owns m.key).getD own0).k.n = m.k.n)) with e2 | e2 <;> simp only [e1, e2] <;> exact callOK_run 400 [hC 1 1 c1, hB 1 4 _ _ e1, hB 2 9 _ _ e2, hC 4 6 c2] (by kernel_rfl) (by kernel_rfl)
end Go.Proofs.YtifapcpcemigdaaGreat
end
section
namespace Go.Proofs.YtifapcpcemigdaaGreat
open Go.RowKit Go.Lib Go.Tk Go.Shelf Go.Vc Go.Sx
def hearB (c : Int) (m : MsV) : Heap := [((0, 4), .box none (hearS c m))]
def Hear1 : Nat := 102
def Hear2 : Nat := 104
def Hear3 : Nat := 106
def Hear4 : Nat := 108
def Hear5 : Nat := 110
theorem hear1_w (F : CF) (B : BookV) (c : Int) (m : MsV) (hk : KidOk m.key) : CallOK Tryz.prog Hear1 [.ptr 0 4 0] (hearB c m) (bkH F B) (.tup [.raw 1 0, eN 0]) (bkH F (hwantQ B c m.key).b ++ [((1, 0), outsC (hwantQ B c m.key).out)]) := by
  have c1 := outs_of (hwant_w F B c m hk)
  exact callOK_run 400 [hC 1 1 c1] (by kernel_rfl) (by kernel_rfl)
theorem hear2_w (F : CF) (B : BookV) (c : Int) (m : MsV) (hk : KidOk m.key) : CallOK Tryz.prog Hear2 [.ptr 0 4 0] (hearB c m) (bkH F B) (.tup [nilS, eN (hgrantQ B c m).e]) (bkH F (hgrantQ B c m).b) := by
  have c1 := hgrant_w F B c m hk
  exact callOK_run 400 [hC 1 1 c1] (by kernel_rfl) (by kernel_rfl)
theorem hear3_w (F : CF) (B : BookV) (c : Int) (m : MsV) (hk : KidOk m.key) : CallOK Tryz.prog Hear3 [.ptr 0 4 0] (hearB c m) (bkH F B) (.tup [nilS, eN 0]) (bkH F (hrefB B c m.key)) := by
  have c1 := hrefused_w F B c m hk
  exact callOK_run 400 [hC 1 1 c1] (by kernel_rfl) (by kernel_rfl)
theorem hear4_w (F : CF) (B : BookV) (c : Int) (m : MsV) (hk : KidOk m.key) : CallOK Tryz.prog Hear4 [.ptr 0 4 0] (hearB c m) (bkH F B) (.tup [.raw 1 0, eN 0]) (bkH F (hrecallQ B c m.key).b ++ [((1, 0), outsC (hrecallQ B c m.key).out)]) := by
  have c1 := outs_of (hrecall_w F B c m hk)
  exact callOK_run 400 [hC 1 1 c1] (by kernel_rfl) (by kernel_rfl)
theorem hear5_w (F : CF) (B : BookV) (c : Int) (m : MsV) (hk : KidOk m.key) : CallOK Tryz.prog Hear5 [.ptr 0 4 0] (hearB c m) (bkH F B) (.tup [nilS, eN 0]) (bkH F (hretB B c m)) := by
  have c1 := hreturned_w F B c m hk
  exact callOK_run 400 [hC 1 1 c1] (by kernel_rfl) (by kernel_rfl)
def hearDo (B : BookV) (c : Int) (m : MsV) : HR :=
  bif decide (m.kind = 1) then hwantQ B c m.key else bif decide (m.kind = 2) then ⟨[], (hgrantQ B c m).e, (hgrantQ B c m).b⟩ else bif decide (m.kind = 3) then ⟨[], 0, hrefB B c m.key⟩ else bif decide (m.kind = 4) then hrecallQ B c m.key else ⟨[], 0, hretB B c m⟩
def badHear (B : BookV) (c : Int) (kind : Int) : Bool := !(decide (1 ≤ kind) && decide (kind ≤ 5)) || (decide (c = B.self) || decide (B.n ≤ c))
def hearQ (B : BookV) (c : Int) (m : MsV) : HR := bif badHear B c m.kind then ⟨[], 1, B⟩ else hearDo B c m
theorem hwant_e (B : BookV) (c : Int) (k : Kid) : (hwantQ B c k).e = 0 := by
  unfold hwantQ
  dsimp only
  cases (lkt B.owns k).isSome <;> cases ((lkt B.owns k).getD own0).away <;> cases decide (((lkt B.owns k).getD own0).k.l.c = c) <;> cases decide (((lkt B.owns k).getD own0).k.s = 1) <;> cases decide (((lkt B.owns k).getD own0).k.n = 4294967295) <;> rfl
theorem hrecall_e (B : BookV) (c : Int) (k : Kid) : (hrecallQ B c k).e = 0 := by
  unfold hrecallQ
  dsimp only
  cases isHeld B c k <;> cases ((lkt B.helds k).getD held0).here <;> cases decide (((lkt B.helds k).getD held0).k.s = 1) <;> rfl
def HearF : Nat := 56
def FNT : TypeId := 183
def hearEs : List (Value × SV × Nat) := [(.int .u8 5, .fn (.func Hear5) [] [.ptr 0 4 0], 0), (.int .u8 4, .fn (.func Hear4) [] [.ptr 0 4 0], 0), (.int .u8 3, .fn (.func Hear3) [] [.ptr 0 4 0], 0), (.int .u8 2, .fn (.func Hear2) [] [.ptr 0 4 0], 0), (.int .u8 1, .fn (.func Hear1) [] [.ptr 0 4 0], 0)]
theorem keyOf_u8 {x : Int} (h : 0 ≤ x ∧ x ≤ 255) : ∃ l, keyOf Tryz.prog 5 (.int .u8 x) = some l := ⟨_, Go.Maps.keyOf_int_mk Tryz.underlying5 (wf_u8 h)⟩
theorem hear_w (F : CF) (B : BookV) {c : Int} (hc : 0 ≤ c ∧ c ≤ 255) (m : MsV) (hm : 0 ≤ m.kind ∧ m.kind ≤ 255) (hk : KidOk m.key) : CallOK Tryz.prog HearF [.ptr 0 0 0, .val (.int .u8 c), .agg (msS m)] [] (bkH F B) (.tup [.raw 1 0, eN (hearQ B c m).e]) (bkH F (hearQ B c m).b ++ [((1, 0), outsC (hearQ B c m).out)]) := by
  obtain ⟨kind, key, k, amt, code⟩ := m
  have c1 := self_w F B
  have c2 := carr_w F B
  have w1 : IntKind.i64.wrap c = c := wr_i64 (by omega)
  have h1 := hear1_w F B c ⟨kind, key, k, amt, code⟩ hk
  have h2 := hear2_w F B c ⟨kind, key, k, amt, code⟩ hk
  have h3 := hear3_w F B c ⟨kind, key, k, amt, code⟩ hk
  have h4 := hear4_w F B c ⟨kind, key, k, amt, code⟩ hk
  have h5 := hear5_w F B c ⟨kind, key, k, amt, code⟩ hk
  have E1 := hwant_e B c key
  have E4 := hrecall_e B c key
  by_cases g : kind = 1 ∨ kind = 2 ∨ kind = 3 ∨ kind = 4 ∨ kind = 5
  · rcases Bool.eq_false_or_eq_true (decide (c = B.self)) with e1 | e1
    · have e : badHear B c kind = true := by unfold badHear; rw [e1, Bool.true_or, Bool.or_true]
      unfold hearQ
      simp only [e]
      rcases g with rfl | rfl | rfl | rfl | rfl <;> exact callOK_run 400 [hC 6 5 c1, hB 6 6 _ _ e1] (by kernel_rfl) (by kernel_rfl)
    rcases Bool.eq_false_or_eq_true (decide (B.n ≤ c)) with e2 | e2
    · have e : badHear B c kind = true := by unfold badHear; rw [e2, Bool.or_true, Bool.or_true]
      unfold hearQ
      simp only [e]
      rcases g with rfl | rfl | rfl | rfl | rfl <;> exact callOK_run 400 [hC 6 5 c1, hB 6 6 _ _ e1, hI 6 10 IntKind.i64 _ _ w1, hC 6 12 c2, hB 6 13 _ _ e2] (by kernel_rfl) (by kernel_rfl)
    have e : badHear B c kind = false := by
      unfold badHear; rw [e1, e2]
      rcases g with rfl | rfl | rfl | rfl | rfl <;> rfl
    unfold hearQ
    simp only [e]
    rcases g with rfl | rfl | rfl | rfl | rfl
    · show CallOK _ _ _ _ _ (.tup [.raw 1 0, eN (hwantQ B c key).e]) _
      rw [E1]
      exact callOK_run 400 [hC 6 5 c1, hB 6 6 _ _ e1, hI 6 10 IntKind.i64 _ _ w1, hC 6 12 c2, hB 6 13 _ _ e2, hC 8 1 h1] (by kernel_rfl) (by kernel_rfl)
    · exact callOK_run 400 [hC 6 5 c1, hB 6 6 _ _ e1, hI 6 10 IntKind.i64 _ _ w1, hC 6 12 c2, hB 6 13 _ _ e2, hC 8 1 h2] (by kernel_rfl) (by kernel_rfl)
    · exact callOK_run 400 [hC 6 5 c1, hB 6 6 _ _ e1, hI 6 10 IntKind.i64 _ _ w1, hC 6 12 c2, hB 6 13 _ _ e2, hC 8 1 h3] (by kernel_rfl) (by kernel_rfl)
    · show CallOK _ _ _ _ _ (.tup [.raw 1 0, eN (hrecallQ B c key).e]) _
      rw [E4]
      exact callOK_run 400 [hC 6 5 c1, hB 6 6 _ _ e1, hI 6 10 IntKind.i64 _ _ w1, hC 6 12 c2, hB 6 13 _ _ e2, hC 8 1 h4] (by kernel_rfl) (by kernel_rfl)
    · exact callOK_run 400 [hC 6 5 c1, hB 6 6 _ _ e1, hI 6 10 IntKind.i64 _ _ w1, hC 6 12 c2, hB 6 13 _ _ e2, hC 8 1 h5] (by kernel_rfl) (by kernel_rfl)
  · have e : badHear B c kind = true := by
      unfold badHear
      have : (decide (1 ≤ kind) && decide (kind ≤ 5)) = false := by
        rw [Bool.and_eq_false_iff, decide_eq_false_iff_not, decide_eq_false_iff_not]
        by_cases h : 1 ≤ kind
        · exact .inr (by omega)
        · exact .inl h
      rw [this]; rfl
    unfold hearQ
    simp only [e]
    have l1 := look_missG (P := Tryz.prog) (t := FNT) (c := true) (es := hearEs) (k := .u8) (x := kind) (ret := .tup [.val .nilFunc, .val (.bool false)]) (z := .nilFunc) Tryz.underlying183 Tryz.underlying5 (by kernel_rfl) (by kernel_rfl) (keyOf_u8 hm) (fun w => still_run (by kernel_rfl) w)
      (fun q hq e => g (by
        simp only [hearEs, List.mem_cons, List.not_mem_nil, or_false] at hq
        rcases hq with rfl | rfl | rfl | rfl | rfl <;> (cases e; simp)))
      (fun _ => rfl) (by rfl) (by kernel_rfl)
    exact callOK_run 400 [hG 5 3 l1] (by kernel_rfl) (by kernel_rfl)
end Go.Proofs.YtifapcpcemigdaaGreat
end
