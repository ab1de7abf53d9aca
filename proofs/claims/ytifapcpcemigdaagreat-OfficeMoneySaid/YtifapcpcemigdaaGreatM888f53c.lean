/- Bi1, Bi2, SxQ2, Bi3. -/
import Derived.Test.YtifapcpcemigdaaGreatM533403a
import Derived.Test.YtifapcpcemigdaaGreatM81af217
set_option maxRecDepth 100000
set_option linter.unusedVariables false
set_option linter.unusedSimpArgs false
set_option linter.unusedSectionVars false
section
namespace Go.Proofs.YtifapcpcemigdaaGreat
open Go.RowKit Go.Lib Go.Tk Go.Shelf Go.Vc Go.Sx
def NextF : Nat := 123
theorem next_w {s c : Int} (hs : 0 ≤ s ∧ s ≤ 255) (hc : 0 ≤ c ∧ c ≤ 255) : CallOK Tryz.prog NextF [.val (.int .u8 s), .val (.int .u8 c)] [] [] (.tup [.val (.int .u8 (nextI s c).1), eN (nextI s c).2]) [] := by
  exact callOK_pure fun ε w => next_any s c w (wf_u8 hs) (wf_u8 hc)
def BtellF : Nat := 124
theorem btell_w (c : Int) (m : MsV) : CallOK Tryz.prog BtellF [.val (.int .u8 c), .agg (msS m)] [] [] (.raw 1 0) [((1, 0), outsR [⟨c, m⟩])] := callOK_run 400 [] (by kernel_rfl) (by kernel_rfl)
def usedP (o : OwnV) (s : Int) (p : Bool) : OwnV := { o with k := { o.k with s := s }, paid := p }
def usedO (o : OwnV) (s : Int) : OwnV := usedP o s (o.paid || decide (s = 4))
def useOwn (B : BookV) (k : Kid) (cmd : Int) : HR :=
  let o := (lkt B.owns k).getD own0
  bif !(lkt B.owns k).isSome then ⟨[], 4, B⟩
  else bif o.away || !decide (o.k.l.c = B.self) then ⟨[], 160, B⟩
  else bif !decide ((nextI o.k.s cmd).2 = 0) then ⟨[], (nextI o.k.s cmd).2, B⟩
  else ⟨[], 0, B.setO k (usedO o (nextI o.k.s cmd).1)⟩
def BownF : Nat := 121
theorem bown_w (F : CF) (B : BookV) {k : Kid} (hk : KidOk k) {cmd : Int} (hc : 0 ≤ cmd ∧ cmd ≤ 255) (hs : ∀ o, lkt B.owns k = some o → 0 ≤ o.k.s ∧ o.k.s ≤ 255) :
    CallOK Tryz.prog BownF [.ptr 0 0 0, .agg (kidS k), .val (.int .u8 cmd)] [] (bkH F B) (eN (useOwn B k cmd).e) (bkH F (useOwn B k cmd).b) := by
  have c1 := own_w F B hk
  have c4 := self_w F B
  unfold useOwn
  cases hl : lkt B.owns k with
  | none =>
    rw [hl] at c1
    exact callOK_run 400 [hC 1 2 c1] (by kernel_rfl) (by kernel_rfl)
  | some o =>
    rw [hl] at c1
    have c2 := setOwn_w F B hk (usedO o (nextI o.k.s cmd).1)
    have c3 := next_w (hs o hl) hc
    rw [hl] at c2
    simp only [Option.getD_some]
    rcases Bool.eq_false_or_eq_true o.away with e1 | e1
    · simp only [e1]; exact callOK_run 400 [hC 1 2 c1, hB 4 1 _ _ e1] (by kernel_rfl) (by kernel_rfl)
    rcases Bool.eq_false_or_eq_true (decide (o.k.l.c = B.self)) with e2 | e2
    · have e2' : (!decide (o.k.l.c = B.self)) = false := by rw [e2]; rfl
      rcases Bool.eq_false_or_eq_true (decide ((nextI o.k.s cmd).2 = 0)) with e3 | e3
      · have e3' : (!decide ((nextI o.k.s cmd).2 = 0)) = false := by rw [e3]; rfl
        unfold usedO at c2 ⊢
        rcases Bool.eq_false_or_eq_true o.paid with e4 | e4 <;> rcases Bool.eq_false_or_eq_true (decide ((nextI o.k.s cmd).1 = 4)) with e5 | e5 <;> simp only [e1, e2, e3, e4, e5] at c2 ⊢ <;> exact callOK_run 400 [hC 1 2 c1, hB 4 1 _ _ e1, hC 4 8 c4, hB 4 9 _ _ e2', hC 6 4 c3, hB 7 1 _ _ e3', hB 9 1 _ _ e4, hB 9 6 _ _ e5, hC 10 3 c2] (by kernel_rfl) (by kernel_rfl)
      · have e3' : (!decide ((nextI o.k.s cmd).2 = 0)) = true := by rw [e3]; rfl
        simp only [e1, e2, e3]
        exact callOK_run 400 [hC 1 2 c1, hB 4 1 _ _ e1, hC 4 8 c4, hB 4 9 _ _ e2', hC 6 4 c3, hB 7 1 _ _ e3'] (by kernel_rfl) (by kernel_rfl)
    · have e2' : (!decide (o.k.l.c = B.self)) = true := by rw [e2]; rfl
      simp only [e1, e2]; exact callOK_run 400 [hC 1 2 c1, hB 4 1 _ _ e1, hC 4 8 c4, hB 4 9 _ _ e2'] (by kernel_rfl) (by kernel_rfl)
def billO (k : Kid) (amt : Int) : OutV := ⟨k.t.c, ⟨6, k, cpn0, amt, 0⟩⟩
def usedHP (h : HeldV) (s : Int) (p : Bool) : HeldV := { h with k := { h.k with s := s }, billed := p }
def usedH (h : HeldV) (s : Int) : HeldV := usedHP h s (h.billed || decide (s = 4))
def useB (cmd : Int) : Bool := decide (9 ≤ cmd) && decide (cmd ≤ 12)
def useHeld (B : BookV) (k : Kid) (cmd : Int) : HR :=
  let h := (lkt B.helds k).getD held0
  bif !(lkt B.helds k).isSome then ⟨[], 4, B⟩
  else bif !h.here then ⟨[], 160, B⟩
  else bif !decide ((nextI h.k.s cmd).2 = 0) then ⟨[], (nextI h.k.s cmd).2, B⟩
  else ⟨bif decide ((nextI h.k.s cmd).1 = 4) then [billO k h.k.v] else [], 0, B.setH k (usedH h (nextI h.k.s cmd).1)⟩
def useQ (B : BookV) (k : Kid) (cmd : Int) : HR :=
  bif !useB cmd then ⟨[], 1, B⟩ else bif decide (k.t.c = B.self) then ⟨[], (useOwn B k cmd).e, (useOwn B k cmd).b⟩ else useHeld B k cmd
def UseF : Nat := 82
theorem use_no {cmd : Int} (h : useB cmd = false) : decide (cmd = 9) = false ∧ decide (cmd = 10) = false ∧ decide (cmd = 11) = false ∧ decide (cmd = 12) = false := by
  unfold useB at h
  simp only [Bool.and_eq_false_iff, decide_eq_false_iff_not] at h ⊢
  omega
theorem use_yes {cmd : Int} (h : useB cmd = true) : cmd = 9 ∨ cmd = 10 ∨ cmd = 11 ∨ cmd = 12 := by
  unfold useB at h
  simp only [Bool.and_eq_true, decide_eq_true_eq] at h
  omega
theorem use_w (F : CF) (B : BookV) {k : Kid} (hk : KidOk k) {cmd : Int} (hc : 0 ≤ cmd ∧ cmd ≤ 255) (hs : ∀ o, lkt B.owns k = some o → 0 ≤ o.k.s ∧ o.k.s ≤ 255) (hh : ∀ h, lkt B.helds k = some h → 0 ≤ h.k.s ∧ h.k.s ≤ 255) :
    CallOK Tryz.prog UseF [.ptr 0 0 0, .agg (kidS k), .val (.int .u8 cmd)] [] (bkH F B) (.tup [.raw 1 0, eN (useQ B k cmd).e]) (bkH F (useQ B k cmd).b ++ [((1, 0), outsR (useQ B k cmd).out)]) := by
  have c0 := self_w F B
  rcases Bool.eq_false_or_eq_true (useB cmd) with eu | eu
  · have c5 := bown_w F B hk hc hs
    have c1 := held_w F B hk
    rcases Bool.eq_false_or_eq_true (decide (k.t.c = B.self)) with e0 | e0
    · unfold useQ
      simp only [eu, e0]
      clear hh c1
      rcases use_yes eu with rfl | rfl | rfl | rfl <;> exact callOK_run 400 [hC 5 4 c0, hB 5 5 _ _ e0, hC 6 3 c5] (by kernel_rfl) (by kernel_rfl)
    · unfold useQ
      simp only [eu, e0]
      clear c5 hs
      unfold useHeld
      cases hl : lkt B.helds k with
      | none =>
        rw [hl] at c1
        rcases use_yes eu with rfl | rfl | rfl | rfl <;> exact callOK_run 400 [hC 5 4 c0, hB 5 5 _ _ e0, hC 7 2 c1] (by kernel_rfl) (by kernel_rfl)
      | some h =>
        rw [hl] at c1
        have c3 := next_w (hh h hl) hc
        have c2 := setHeld_w F B hk (usedH h (nextI h.k.s cmd).1)
        have c6 := btell_w k.t.c ⟨6, k, cpn0, h.k.v, 0⟩
        simp only [Option.getD_some]
        rcases Bool.eq_false_or_eq_true h.here with e1 | e1
        · rcases Bool.eq_false_or_eq_true (decide ((nextI h.k.s cmd).2 = 0)) with e3 | e3
          · have e3' : (!decide ((nextI h.k.s cmd).2 = 0)) = false := by rw [e3]; rfl
            unfold usedH at c2 ⊢
            rcases Bool.eq_false_or_eq_true (decide ((nextI h.k.s cmd).1 = 4)) with e5 | e5
            · simp only [e1, e3, e5, Bool.or_true] at c2 ⊢
              rcases use_yes eu with rfl | rfl | rfl | rfl <;> exact callOK_run 400 [hC 5 4 c0, hB 5 5 _ _ e0, hC 7 2 c1, hB 10 1 _ _ e1, hC 12 4 c3, hB 13 1 _ _ e3', hB 16 3 _ _ e5, hC 18 8 c6, hC 19 3 c2] (by kernel_rfl) (by kernel_rfl)
            · simp only [e1, e3, e5, Bool.or_false] at c2 ⊢
              rcases use_yes eu with rfl | rfl | rfl | rfl <;> exact callOK_run 400 [hC 5 4 c0, hB 5 5 _ _ e0, hC 7 2 c1, hB 10 1 _ _ e1, hC 12 4 c3, hB 13 1 _ _ e3', hB 16 3 _ _ e5, hC 19 3 c2] (by kernel_rfl) (by kernel_rfl)
          · have e3' : (!decide ((nextI h.k.s cmd).2 = 0)) = true := by rw [e3]; rfl
            simp only [e1, e3]
            rcases use_yes eu with rfl | rfl | rfl | rfl <;> exact callOK_run 400 [hC 5 4 c0, hB 5 5 _ _ e0, hC 7 2 c1, hB 10 1 _ _ e1, hC 12 4 c3, hB 13 1 _ _ e3'] (by kernel_rfl) (by kernel_rfl)
        · simp only [e1]
          rcases use_yes eu with rfl | rfl | rfl | rfl <;> exact callOK_run 400 [hC 5 4 c0, hB 5 5 _ _ e0, hC 7 2 c1, hB 10 1 _ _ e1] (by kernel_rfl) (by kernel_rfl)
  · obtain ⟨u1, u2, u3, u4⟩ := use_no eu
    have v1 : (!decide (cmd = 9)) = true := by rw [u1]; rfl
    have v2 : (!decide (cmd = 10)) = true := by rw [u2]; rfl
    have v3 : (!decide (cmd = 11)) = true := by rw [u3]; rfl
    have v4 : (!decide (cmd = 12)) = true := by rw [u4]; rfl
    unfold useQ
    simp only [eu]
    exact callOK_run 400 [hB 3 1 _ _ v1, hB 3 4 _ _ v2, hB 3 8 _ _ v3, hB 3 12 _ _ v4] (by kernel_rfl) (by kernel_rfl)
def MCheckF : Nat := 141
theorem mcheck_w (a : Int) : CallOK Tryz.prog MCheckF [.val (.int .i64 a)] [] [] (eN (errI a)) [] := callOK_pure fun ε w => check_any a w
def billedH (h : HeldV) : HeldV := { h with billed := true }
def billQ (B : BookV) (k : Kid) (amt : Int) : HR :=
  let h := (lkt B.helds k).getD held0
  bif !(lkt B.helds k).isSome then ⟨[], 4, B⟩
  else bif !h.here then ⟨[], 160, B⟩
  else bif !decide (h.k.s = 4) || (h.paid || h.billed) then ⟨[], 6, B⟩
  else bif !mayI amt then ⟨[], 7, B⟩
  else ⟨[billO k amt], 0, B.setH k (billedH h)⟩
def BillF : Nat := 98
theorem bill_w (F : CF) (B : BookV) {k : Kid} (hk : KidOk k) (amt : Int) : CallOK Tryz.prog BillF [.ptr 0 0 0, .agg (kidS k), .val (.int .i64 amt)] [] (bkH F B) (.tup [.raw 1 0, eN (billQ B k amt).e]) (bkH F (billQ B k amt).b ++ [((1, 0), outsR (billQ B k amt).out)]) := by
  have c1 := held_w F B hk
  have c4 := mcheck_w amt
  unfold billQ
  cases hl : lkt B.helds k with
  | none =>
    rw [hl] at c1
    exact callOK_run 400 [hC 1 2 c1] (by kernel_rfl) (by kernel_rfl)
  | some h =>
    rw [hl] at c1
    have c2 := setHeld_w F B hk (billedH h)
    have c6 := btell_w k.t.c ⟨6, k, cpn0, amt, 0⟩
    simp only [Option.getD_some]
    rcases Bool.eq_false_or_eq_true h.here with e1 | e1
    · rcases Bool.eq_false_or_eq_true (decide (h.k.s = 4)) with e2 | e2
      · have e2' : (!decide (h.k.s = 4)) = false := by rw [e2]; rfl
        rcases Bool.eq_false_or_eq_true h.paid with e3 | e3
        · simp only [e1, e2, e3]; exact callOK_run 400 [hC 1 2 c1, hB 4 1 _ _ e1, hB 6 3 _ _ e2', hB 6 6 _ _ e3] (by kernel_rfl) (by kernel_rfl)
        rcases Bool.eq_false_or_eq_true h.billed with e4 | e4
        · simp only [e1, e2, e3, e4]; exact callOK_run 400 [hC 1 2 c1, hB 4 1 _ _ e1, hB 6 3 _ _ e2', hB 6 6 _ _ e3, hB 6 10 _ _ e4] (by kernel_rfl) (by kernel_rfl)
        rcases Bool.eq_false_or_eq_true (mayI amt) with e5 | e5 <;> simp only [errI, e1, e2, e3, e4, e5] at c4 ⊢ <;> exact callOK_run 400 [hC 1 2 c1, hB 4 1 _ _ e1, hB 6 3 _ _ e2', hB 6 6 _ _ e3, hB 6 10 _ _ e4, hC 8 1 c4, hC 11 3 c2, hC 12 6 c6] (by kernel_rfl) (by kernel_rfl)
      · have e2' : (!decide (h.k.s = 4)) = true := by rw [e2]; rfl
        simp only [e1, e2]; exact callOK_run 400 [hC 1 2 c1, hB 4 1 _ _ e1, hB 6 3 _ _ e2'] (by kernel_rfl) (by kernel_rfl)
    · simp only [e1]; exact callOK_run 400 [hC 1 2 c1, hB 4 1 _ _ e1] (by kernel_rfl) (by kernel_rfl)
end Go.Proofs.YtifapcpcemigdaaGreat
end
section
namespace Go.Proofs.YtifapcpcemigdaaGreat
open Go.RowKit Go.Lib Go.Tk Go.Shelf Go.Vc Go.Sx
def rejO (c : Int) (k : Kid) (amt e : Int) : OutV := ⟨c, ⟨8, k, cpn0, amt, e⟩⟩
def accO (c : Int) (k : Kid) (amt : Int) : OutV := ⟨c, ⟨7, k, cpn0, amt, 0⟩⟩
def paidO (o : OwnV) : OwnV := { o with k := { o.k with s := 4 }, paid := true }
def hbillQ (B : BookV) (c : Int) (m : MsV) : HR :=
  let o := (lkt B.owns m.key).getD own0
  bif !(lkt B.owns m.key).isSome then ⟨[rejO c m.key m.amt 4], 0, B⟩
  else bif !o.away || !decide (o.dst = c) then ⟨[rejO c m.key m.amt 160], 0, B⟩
  else bif o.paid then ⟨[rejO c m.key m.amt 5], 0, B⟩
  else bif !decide (o.k.v = m.amt) then ⟨[rejO c m.key m.amt 1], 0, B⟩
  else ⟨[accO c m.key m.amt], 0, B.setO m.key (paidO o)⟩
def HbillF : Nat := 112
def HansF : Nat := 113
def Rej1 : Nat := 146
theorem rej1_w (c : Int) (m : MsV) (e : Int) : CallOK Tryz.prog Rej1 [eN e, .ptr 0 4 0] [((0, 4), .box none (hearS c m))] [] (.raw 1 0) [((1, 0), outsR [rejO c m.key m.amt e])] := by
  have c3 := btell_w c ⟨8, m.key, cpn0, m.amt, e⟩
  exact callOK_run 400 [hC 1 10 c3] (by kernel_rfl) (by kernel_rfl)
theorem hbill_w (F : CF) (B : BookV) (c : Int) (m : MsV) (hk : KidOk m.key) : CallOK Tryz.prog HbillF [.agg (hearS c m)] [] (bkH F B) (.raw 1 0) (bkH F (hbillQ B c m).b ++ [((1, 0), outsR (hbillQ B c m).out)]) := by
  have c1 := own_w F B hk
  have r1 := rej1_w c m 4
  have r2 := rej1_w c m 160
  have r3 := rej1_w c m 5
  have r4 := rej1_w c m 1
  unfold hbillQ
  cases hl : lkt B.owns m.key with
  | none =>
    rw [hl] at c1
    exact callOK_run 400 [hC 1 5 c1, hC 4 1 r1] (by kernel_rfl) (by kernel_rfl)
  | some o =>
    rw [hl] at c1
    have c2 := setOwn_w F B hk (paidO o)
    have c4 := btell_w c ⟨7, m.key, cpn0, m.amt, 0⟩
    simp only [Option.getD_some]
    rcases Bool.eq_false_or_eq_true o.away with e1 | e1
    · rcases Bool.eq_false_or_eq_true (decide (o.dst = c)) with e2 | e2
      · have e2' : (!decide (o.dst = c)) = false := by rw [e2]; rfl
        rcases Bool.eq_false_or_eq_true o.paid with e3 | e3
        · simp only [e1, e2, e3]; exact callOK_run 400 [hC 1 5 c1, hB 5 1 _ _ e1, hB 5 8 _ _ e2', hB 7 1 _ _ e3, hC 8 1 r3] (by kernel_rfl) (by kernel_rfl)
        · rcases Bool.eq_false_or_eq_true (decide (o.k.v = m.amt)) with e4 | e4
          · have e4' : (!decide (o.k.v = m.amt)) = false := by rw [e4]; rfl
            simp only [e1, e2, e3, e4]; exact callOK_run 400 [hC 1 5 c1, hB 5 1 _ _ e1, hB 5 8 _ _ e2', hB 7 1 _ _ e3, hB 9 6 _ _ e4', hC 12 6 c2, hC 13 9 c4] (by kernel_rfl) (by kernel_rfl)
          · have e4' : (!decide (o.k.v = m.amt)) = true := by rw [e4]; rfl
            simp only [e1, e2, e3, e4]; exact callOK_run 400 [hC 1 5 c1, hB 5 1 _ _ e1, hB 5 8 _ _ e2', hB 7 1 _ _ e3, hB 9 6 _ _ e4', hC 10 1 r4] (by kernel_rfl) (by kernel_rfl)
      · have e2' : (!decide (o.dst = c)) = true := by rw [e2]; rfl
        simp only [e1, e2]; exact callOK_run 400 [hC 1 5 c1, hB 5 1 _ _ e1, hB 5 8 _ _ e2', hC 6 1 r2] (by kernel_rfl) (by kernel_rfl)
    · simp only [e1]; exact callOK_run 400 [hC 1 5 c1, hB 5 1 _ _ e1, hC 6 1 r2] (by kernel_rfl) (by kernel_rfl)
def ansdP (h : HeldV) (p : Bool) : HeldV := { h with billed := false, paid := p }
def ansdH (h : HeldV) (kind : Int) : HeldV := ansdP h (h.paid || decide (kind = 7))
def hansB (B : BookV) (c : Int) (m : MsV) : BookV := bif isHeld B c m.key && ((lkt B.helds m.key).getD held0).billed then B.setH m.key (ansdH ((lkt B.helds m.key).getD held0) m.kind) else B
theorem hans_w (F : CF) (B : BookV) (c : Int) (m : MsV) (hk : KidOk m.key) : CallOK Tryz.prog HansF [.agg (hearS c m)] [] (bkH F B) nilS (bkH F (hansB B c m)) := by
  have c1 := held_w F B hk
  unfold hansB isHeld
  cases hl : lkt B.helds m.key with
  | none =>
    rw [hl] at c1
    exact callOK_run 400 [hC 1 5 c1] (by kernel_rfl) (by kernel_rfl)
  | some h =>
    rw [hl] at c1
    have c2 := setHeld_w F B hk (ansdH h m.kind)
    simp only [Option.getD_some]
    rcases Bool.eq_false_or_eq_true (decide (m.key.t.c = c)) with e1 | e1
    · rcases Bool.eq_false_or_eq_true h.billed with e2 | e2
      · unfold ansdH at c2 ⊢
        rcases Bool.eq_false_or_eq_true h.paid with e3 | e3 <;> rcases Bool.eq_false_or_eq_true (decide (m.kind = 7)) with e4 | e4 <;> simp only [e1, e2, e3, e4] at c2 ⊢ <;> exact callOK_run 400 [hC 1 5 c1, hB 2 10 _ _ e1, hB 2 14 _ _ e2, hB 4 1 _ _ e3, hB 4 6 _ _ e4, hC 5 6 c2] (by kernel_rfl) (by kernel_rfl)
      · simp only [e1, e2]; exact callOK_run 400 [hC 1 5 c1, hB 2 10 _ _ e1, hB 2 14 _ _ e2] (by kernel_rfl) (by kernel_rfl)
    · simp only [e1]; exact callOK_run 400 [hC 1 5 c1, hB 2 10 _ _ e1] (by kernel_rfl) (by kernel_rfl)
end Go.Proofs.YtifapcpcemigdaaGreat
end
section
namespace Go.Sx
open Go.RowKit Go.Tk Go.Lib Go.Shelf Go.Vc
variable {P : Program}
noncomputable local instance : DecidableEq Value := Classical.typeDecidableEq Value
theorem look_missJ (j : Nat) {P : Program} {t kt e : TypeId} {c : Bool} {es : List (Value × SV × Nat)} {k : IntKind} {x : Int} {z : Value} {ret : SV} {i : IntKind} (hT : P.underlying t = some (.map kt e)) (hk : P.underlying kt = some (.int i)) (hkb : keyB P kt = true) (hes : keysOK P kt es = true) (hx : ∃ l, keyOf P kt (.int k x) = some l) (hz : ∀ w, (zeroValue e).run P w = .ok z w)
    (hno : ∀ q ∈ es, q.1 ≠ .int k x) (hr : ∀ ε, ret.den ε = if c then .tuple #[z, .bool false] else z) (hro : ret.ok (ltB 0) = true) (hok : (SC.obj es 0).ok (ltB 1) = true) :
    OpG P (isLk t c) lkXY [.map 0 j, .val (.int k x)] [((0, j), .obj es 0)] [] ret [] := by
  have K := keyB_ok hkb
  intro o ho
  obtain ⟨a, b, ho, hxy⟩ := isLk_of ho
  rw [hxy]
  refine ⟨fun q hq => by rw [ho]; simpa [Op.operands] using hq, fun ε ρ R w hxx hM => ?_⟩
  simp only [List.map_cons, List.map_nil, SV.dens, SV.den, List.cons.injEq, and_true] at hxx
  obtain ⟨h1, h2⟩ := hxx
  have hM : Mem (objM (ε 0 j).1 (entsDen ε es) :: R) w := hM
  have hm := hM.of (c := objM _ _) 0 rfl (φ := MapAt (KV kt K) w (ε 0 j).1 (entsDen ε es)) (fun S hS => objM_map K hes hS)
  have hrun := hm.lookup (w := w) hT hz (x := (.int k x)) hx c
  have hl : lk (entsDen ε es) (.int k x) = none := by
    rw [lk_none]
    intro p hp
    obtain ⟨q, hq, rfl⟩ := List.mem_map.1 hp
    exact hno q hq
  rw [hl] at hrun
  have hrun : (Instr.lookup t (.map (some (ε 0 j).1)) (.int k x) c).run P w = .ok (if c then .tuple #[z, .bool false] else z) w := hrun
  have hE : (execOp ρ o).run P w = .ok (.value (ret.den ε)) w := by
    unfold execOp; rw [ho]
    simp only [h1, h2]
    rw [hr ε]
    simp [hrun, go_sem]
  refine res_ok hE ⟨ε 1, ?_, ?_⟩
  · rw [eset_self]
  · rw [eset_self]; exact hM
end Go.Sx
end
section
namespace Go.Proofs.YtifapcpcemigdaaGreat
open Go.RowKit Go.Lib Go.Tk Go.Shelf Go.Vc Go.Sx
def badHearB (B : BookV) (c : Int) (kind : Int) : Bool := !(decide (6 ≤ kind) && decide (kind ≤ 8)) || (decide (c = B.self) || decide (B.n ≤ c))
def hearBQ (B : BookV) (c : Int) (m : MsV) : HR := bif badHearB B c m.kind then ⟨[], 1, B⟩ else bif decide (m.kind = 6) then hbillQ B c m else ⟨[], 0, hansB B c m⟩
theorem hbill_e (B : BookV) (c : Int) (m : MsV) : (hbillQ B c m).e = 0 := by
  unfold hbillQ
  dsimp only
  cases (lkt B.owns m.key).isSome <;> cases ((lkt B.owns m.key).getD own0).away <;> cases decide (((lkt B.owns m.key).getD own0).dst = c) <;> cases ((lkt B.owns m.key).getD own0).paid <;> cases decide (((lkt B.owns m.key).getD own0).k.v = m.amt) <;> rfl
def BhearF : Nat := 58
def BFT : TypeId := 187
def bhearEs (c : Int) (m : MsV) : List (Value × SV × Nat) := [(.int .u8 8, .fn (.func HansF) [.agg (hearS c m)] [], 0), (.int .u8 7, .fn (.func HansF) [.agg (hearS c m)] [], 0), (.int .u8 6, .fn (.func HbillF) [.agg (hearS c m)] [], 0)]
theorem bhear_w (F : CF) (B : BookV) {c : Int} (hc : 0 ≤ c ∧ c ≤ 255) (m : MsV) (hm : 0 ≤ m.kind ∧ m.kind ≤ 255) (hk : KidOk m.key) : CallOK Tryz.prog BhearF [.ptr 0 0 0, .val (.int .u8 c), .agg (msS m)] [] (bkH F B) (.tup [.raw 1 0, eN (hearBQ B c m).e]) (bkH F (hearBQ B c m).b ++ [((1, 0), outsC (hearBQ B c m).out)]) := by
  obtain ⟨kind, key, k, amt, code⟩ := m
  have c1 := self_w F B
  have c2 := carr_w F B
  have w1 : IntKind.i64.wrap c = c := wr_i64 (by omega)
  have h1 := outs_of (hbill_w F B c ⟨kind, key, k, amt, code⟩ hk)
  have h2 := hans_w F B c ⟨kind, key, k, amt, code⟩ hk
  have E1 := hbill_e B c ⟨kind, key, k, amt, code⟩
  by_cases g : kind = 6 ∨ kind = 7 ∨ kind = 8
  · rcases Bool.eq_false_or_eq_true (decide (c = B.self)) with e1 | e1
    · have e : badHearB B c kind = true := by unfold badHearB; rw [e1, Bool.true_or, Bool.or_true]
      unfold hearBQ
      simp only [e]
      rcases g with rfl | rfl | rfl <;> exact callOK_run 400 [hC 6 5 c1, hB 6 6 _ _ e1] (by kernel_rfl) (by kernel_rfl)
    rcases Bool.eq_false_or_eq_true (decide (B.n ≤ c)) with e2 | e2
    · have e : badHearB B c kind = true := by unfold badHearB; rw [e2, Bool.or_true, Bool.or_true]
      unfold hearBQ
      simp only [e]
      rcases g with rfl | rfl | rfl <;> exact callOK_run 400 [hC 6 5 c1, hB 6 6 _ _ e1, hI 6 10 IntKind.i64 _ _ w1, hC 6 12 c2, hB 6 13 _ _ e2] (by kernel_rfl) (by kernel_rfl)
    have e : badHearB B c kind = false := by
      unfold badHearB; rw [e1, e2]
      rcases g with rfl | rfl | rfl <;> rfl
    unfold hearBQ
    simp only [e]
    rcases g with rfl | rfl | rfl
    · show CallOK _ _ _ _ _ (.tup [.raw 1 0, eN (hbillQ B c ⟨6, key, k, amt, code⟩).e]) _
      rw [E1]
      exact callOK_run 400 [hC 6 5 c1, hB 6 6 _ _ e1, hI 6 10 IntKind.i64 _ _ w1, hC 6 12 c2, hB 6 13 _ _ e2, hC 8 1 h1] (by kernel_rfl) (by kernel_rfl)
    · exact callOK_run 400 [hC 6 5 c1, hB 6 6 _ _ e1, hI 6 10 IntKind.i64 _ _ w1, hC 6 12 c2, hB 6 13 _ _ e2, hC 8 1 h2] (by kernel_rfl) (by kernel_rfl)
    · exact callOK_run 400 [hC 6 5 c1, hB 6 6 _ _ e1, hI 6 10 IntKind.i64 _ _ w1, hC 6 12 c2, hB 6 13 _ _ e2, hC 8 1 h2] (by kernel_rfl) (by kernel_rfl)
  · have e : badHearB B c kind = true := by
      unfold badHearB
      have : (decide (6 ≤ kind) && decide (kind ≤ 8)) = false := by
        rw [Bool.and_eq_false_iff, decide_eq_false_iff_not, decide_eq_false_iff_not]
        by_cases h : 6 ≤ kind
        · exact .inr (by omega)
        · exact .inl h
      rw [this]; rfl
    unfold hearBQ
    simp only [e]
    have l1 := look_missJ 9 (P := Tryz.prog) (t := BFT) (c := true) (es := bhearEs c ⟨kind, key, k, amt, code⟩) (k := .u8) (x := kind) (ret := .tup [.val .nilFunc, .val (.bool false)]) (z := .nilFunc) Tryz.underlying187 Tryz.underlying5 (by kernel_rfl) (by kernel_rfl) (keyOf_u8 hm) (fun w => still_run (by kernel_rfl) w)
      (fun q hq e => g (by
        simp only [bhearEs, List.mem_cons, List.not_mem_nil, or_false] at hq
        rcases hq with rfl | rfl | rfl <;> (cases e; simp)))
      (fun _ => rfl) (by rfl) (by kernel_rfl)
    exact callOK_run 400 [hG 5 3 l1] (by kernel_rfl) (by kernel_rfl)
theorem useOwn_docs (B : BookV) (k : Kid) (cmd : Int) : (useOwn B k cmd).b.docs = B.docs := by
  unfold useOwn
  dsimp only
  cases (lkt B.owns k).isSome <;> cases (((lkt B.owns k).getD own0).away || !decide (((lkt B.owns k).getD own0).k.l.c = B.self)) <;> cases decide ((nextI ((lkt B.owns k).getD own0).k.s cmd).2 = 0) <;> first | rfl | exact setO_docs B k _
theorem use_docs (B : BookV) (k : Kid) (cmd : Int) : (useQ B k cmd).b.docs = B.docs := by
  unfold useQ useHeld
  dsimp only
  cases useB cmd <;> cases decide (k.t.c = B.self) <;> cases (lkt B.helds k).isSome <;> cases ((lkt B.helds k).getD held0).here <;> cases decide ((nextI ((lkt B.helds k).getD held0).k.s cmd).2 = 0) <;> first | rfl | exact setH_docs B k _ | exact useOwn_docs B k cmd
theorem bill_docs (B : BookV) (k : Kid) (amt : Int) : (billQ B k amt).b.docs = B.docs := by
  unfold billQ
  dsimp only
  cases (lkt B.helds k).isSome <;> cases ((lkt B.helds k).getD held0).here <;> cases (!decide (((lkt B.helds k).getD held0).k.s = 4) || (((lkt B.helds k).getD held0).paid || ((lkt B.helds k).getD held0).billed)) <;> cases mayI amt <;> first | rfl | exact setH_docs B k _
theorem hbill_docs (B : BookV) (c : Int) (m : MsV) : (hbillQ B c m).b.docs = B.docs := by
  unfold hbillQ
  dsimp only
  cases (lkt B.owns m.key).isSome <;> cases ((lkt B.owns m.key).getD own0).away <;> cases decide (((lkt B.owns m.key).getD own0).dst = c) <;> cases ((lkt B.owns m.key).getD own0).paid <;> cases decide (((lkt B.owns m.key).getD own0).k.v = m.amt) <;> first | rfl | exact setO_docs B _ _
theorem hans_docs (B : BookV) (c : Int) (m : MsV) : (hansB B c m).docs = B.docs := by
  unfold hansB
  cases (isHeld B c m.key && ((lkt B.helds m.key).getD held0).billed) <;> first | rfl | exact setH_docs B _ _
theorem hearB_docs (B : BookV) (c : Int) (m : MsV) : (hearBQ B c m).b.docs = B.docs := by
  unfold hearBQ
  cases badHearB B c m.kind <;> cases decide (m.kind = 6) <;> first | rfl | exact hbill_docs B c m | exact hans_docs B c m
theorem use_c (B : BookV) {k : Kid} (hk : KidOk k) {cmd : Int} (hc : 0 ≤ cmd ∧ cmd ≤ 255) (hs : ∀ o, lkt B.owns k = some o → 0 ≤ o.k.s ∧ o.k.s ≤ 255) (hh : ∀ h, lkt B.helds k = some h → 0 ≤ h.k.s ∧ h.k.s ≤ 255) :
    CallOK Tryz.prog UseF [.ptr 0 0 0, .agg (kidS k), .val (.int .u8 cmd)] [] (bkC B) (.tup [.raw 1 0, eN (useQ B k cmd).e]) (bkC (useQ B k cmd).b ++ [((1, 0), outsC (useQ B k cmd).out)]) :=
  shutD (use_docs B k cmd) (outs_of (use_w (docsX B.docs) B hk hc hs hh)) rfl rfl rfl rfl
theorem bill_c (B : BookV) {k : Kid} (hk : KidOk k) (amt : Int) : CallOK Tryz.prog BillF [.ptr 0 0 0, .agg (kidS k), .val (.int .i64 amt)] [] (bkC B) (.tup [.raw 1 0, eN (billQ B k amt).e]) (bkC (billQ B k amt).b ++ [((1, 0), outsC (billQ B k amt).out)]) :=
  shutD (bill_docs B k amt) (outs_of (bill_w (docsX B.docs) B hk amt)) rfl rfl rfl rfl
theorem hearB_c (B : BookV) {c : Int} (hc : 0 ≤ c ∧ c ≤ 255) (m : MsV) (hm : 0 ≤ m.kind ∧ m.kind ≤ 255) (hk : KidOk m.key) : CallOK Tryz.prog BhearF [.ptr 0 0 0, .val (.int .u8 c), .agg (msS m)] [] (bkC B) (.tup [.raw 1 0, eN (hearBQ B c m).e]) (bkC (hearBQ B c m).b ++ [((1, 0), outsC (hearBQ B c m).out)]) :=
  shutD (hearB_docs B c m) (bhear_w (docsX B.docs) B hc m hm hk) rfl rfl rfl rfl
end Go.Proofs.YtifapcpcemigdaaGreat
end
