/- Coup2, Coup3, Bi1, Ce8, Ce9. -/
import Derived.Test.YtdnaegleifhmgaaGreatCoup1
import Derived.Deep.LoopGhost
import Derived.Test.YtdnaegleifhmgaaGreatM7ce3b18
import Derived.Test.YtdnaegleifhmgaaGreatM083ae95
set_option maxRecDepth 100000
set_option linter.unusedVariables false
set_option linter.unusedSimpArgs false
set_option linter.unusedSectionVars false
section
namespace Go.Proofs.YtdnaegleifhmgaaGreat
open Go.RowKit Go.Lib Go.Tk Go.Maps
theorem stepK_kv (x : Int × Int) : stepK.kv x = .agg #[.int .u8 x.1, .int .u8 x.2] := rfl
def hasCmd (L : List ((Int × Int) × Value)) (c : Int) : Bool := L.any fun p => p.1.2 == c
theorem hasCmd_perm {L left left' : List ((Int × Int) × Value)} {p : (Int × Int) × Value} {c : Int} (hp : left.Perm (p :: left')) (h : hasCmd L c = hasCmd left c) (hne : p.1.2 ≠ c) : hasCmd L c = hasCmd left' c := by
  rw [h]; unfold hasCmd
  rw [hp.any_eq]; simp [hne]
set_option maxHeartbeats 1000000 in
theorem known_any (b : Nat) (L : List ((Int × Int) × Value)) (cmd : Int) (w : World) (hm : MapAt stepK w b L) :
    Calls Tryz.prog 128 #[.map (some b), .int .u8 cmd] w fun e w' => e = .returned (.bool (hasCmd L cmd)) ∧ Below w.heap.size w w' := by
  have Hm := hid hm
  clear hm
  go_enter Tryz.func128, Tryz.ntmps128
  go_wp2_with (at_range; refine wpList_range_map rfl _ 183 rfl Tryz.underlying183 rfl Hm.out ?_; intro w1 hrg hb1; go_frame)
  have Hrg := hid hrg
  clear hrg
  go_loopg [] L.length (fun k wr => ∃ left, k = left.length ∧ Hid (Ranging stepK wr w.heap.size b L left) ∧ Hid (hasCmd L cmd = hasCmd left cmd) ∧ Below w.heap.size w wr)
  case atStart => exact ⟨L, rfl, Hrg, rfl, hb1⟩
  case round =>
    obtain ⟨left, rfl, hr, hc, hbel⟩ := hrel
    go_wp2_with (at_next; refine wpList_next_map rfl _ rfl rfl hr.out ?_ ?_)
    · intro hnil
      subst hnil
      go_wp2
      go_ret
      exact ⟨ret_bool (by rw [hc.out]; rfl), hbel⟩
    · intro a c v left' w2 hp hmem hr2 hg hen
      simp only [stepK_kv] at hen ⊢
      have hb2 : Below w.heap.size w w2 := hbel.grown hg hbel.size (fun j hj => by cases hj; exact Nat.le_refl _)
      have Hr2 := hid hr2
      have Hp := hid hp
      have hlen := hp.length_eq
      have Hmem := hid hmem
      clear hp hmem hr2 hg
      simp only [List.length_cons] at hlen
      have HL := hid hlen
      clear hlen
      by_cases hcc : c = cmd
      · have hcb : (c == cmd) = true := by simpa using hcc
        have HC := hid hcc
        clear hcc
        go_wp2
        go_ret
        refine ⟨ret_bool ?_, hb2.alloc hb2.size _⟩
        symm; unfold hasCmd; rw [List.any_eq_true]
        exact ⟨_, Hmem.out, by simpa using HC.out⟩
      · have hcb : (c == cmd) = false := by simpa using hcc
        have HC := hid hcc
        clear hcc
        go_wp2
        go_roundg left'.length
        case measure => have := HL.out; omega
        case rel => exact ⟨left', rfl, hid (Hr2.out.kept ((Below.refl _ _).alloc (Nat.le_refl _) _)), hid (hasCmd_perm Hp.out hc.out HC.out), hb2.alloc hb2.size _⟩
end Go.Proofs.YtdnaegleifhmgaaGreat
end
section
namespace Go.Proofs.YtdnaegleifhmgaaGreat
open Go.RowKit Go.Lib Go.Tk Go.Maps
def isB (s : Int) : Bool := decide (1 ≤ s) && decide (s ≤ 7)
set_option maxHeartbeats 400000 in
theorem is_any (s : Int) (w : World) :
    Calls Tryz.prog 13 #[.int .u8 s] w fun e w' => e = .returned (.bool (isB s)) ∧ w = w' := by
  go_enter Tryz.func13, Tryz.ntmps13
  go_wp2
  all_goals (go_ret; refine ⟨ret_bool ?_, rfl⟩; unfold isB; rw [Bool.eq_iff_iff]; simp; omega)
def cmdB (c : Int) : Bool := c == 9 || c == 10 || c == 11 || c == 12 || c == 3 || c == 4 || c == 5
theorem hasCmd_ways (c : Int) : hasCmd waysL c = cmdB c := by
  unfold hasCmd cmdB waysL
  rw [Bool.eq_iff_iff]
  simp only [List.any_cons, List.any_nil, Bool.or_false, Bool.or_eq_true, beq_iff_eq]
  omega
def toI (s c : Int) : Option Int :=
  if s = 1 ∧ c = 9 then some 2 else if s = 2 ∧ c = 10 then some 1 else if s = 2 ∧ c = 11 then some 3 else if s = 3 ∧ c = 12 then some 4
  else if s = 1 ∧ c = 3 then some 5 else if s = 1 ∧ c = 4 then some 6 else if s = 1 ∧ c = 5 then some 7 else none
theorem lk_ways (s c : Int) : lk waysL (s, c) = (toI s c).map (.int .u8) := by
  have e : ∀ (a b : Int), decide (((a, b) : Int × Int) = (s, c)) = decide (s = a ∧ c = b) := by
    intro a b; rw [decide_eq_decide]; simp only [Prod.mk.injEq]; omega
  unfold lk waysL toI
  simp only [List.find?_cons, e, List.find?_nil]
  repeat (split <;> simp_all)
def nextI (s c : Int) : Int × Int :=
  if isB s && cmdB c then (match toI s c with | some v => (v, 0) | none => (0, 6)) else (0, 1)
theorem zero22 (w : World) : (zeroValue 44).run Tryz.prog w = .ok (.int .u8 0) w := by kernel_rfl
theorem ret_ui2 {a b c d : Int} (h : (a, b) = (c, d)) : Ending.returned (.tuple #[.int .u8 a, .int .i64 b]) = .returned (.tuple #[.int .u8 c, .int .i64 d]) := ret_i2 h
set_option maxHeartbeats 1000000 in
theorem next_any (s c : Int) (w : World) (hs : (Lit.int .u8 s).wf = true) (hc : (Lit.int .u8 c).wf = true) :
    Calls Tryz.prog 98 #[.int .u8 s, .int .u8 c] w fun e w' => e = .returned (.tuple #[.int .u8 (nextI s c).1, .int .i64 (nextI s c).2]) ∧ Below w.heap.size w w' := by
  have Hs := hid hs
  have Hc := hid hc
  clear hs hc
  have hz := zero22
  have Hz := hid hz
  clear hz
  cases hi : isB s
  · have F := hid (show nextI s c = (0, 1) by simp [nextI, hi])
    go_enter Tryz.func98, Tryz.ntmps98
    go_wp2_with fail
    refine (ways_any _).mono ?_
    rintro e w1 ⟨b, rfl, hm, hb, -⟩
    go_wp2_with (at_lookup; refine wpList_lookup_map (K := stepK) rfl _ _ 183 true rfl Tryz.underlying183 Hz.out rfl hm (s, c) ⟨Hs.out, Hc.out⟩ rfl ?_)
    refine (is_any _ _).mono ?_
    rintro e w' ⟨rfl, rfl⟩
    go_wp2
    go_ret2
    exact ⟨ret_ui2 (by rw [F.out]), hb⟩
  cases hk : cmdB c
  · have F := hid (show nextI s c = (0, 1) by simp [nextI, hk])
    go_enter Tryz.func98, Tryz.ntmps98
    go_wp2_with fail
    refine (ways_any _).mono ?_
    rintro e w1 ⟨b, rfl, hm, hb, -⟩
    go_wp2_with (at_lookup; refine wpList_lookup_map (K := stepK) rfl _ _ 183 true rfl Tryz.underlying183 Hz.out rfl hm (s, c) ⟨Hs.out, Hc.out⟩ rfl ?_)
    refine (is_any _ _).mono ?_
    rintro e w' ⟨rfl, rfl⟩
    go_wp2_with fail
    refine (known_any _ _ _ _ (hm.kept (Below.refl _ _))).mono ?_
    rintro e w2 ⟨rfl, hb2⟩
    rw [hasCmd_ways]
    go_wp2
    go_ret2
    exact ⟨ret_ui2 (by rw [F.out]), bt hb hb2⟩
  cases ht : toI s c with
  | none =>
    have F := hid (show nextI s c = (0, 6) by simp [nextI, hk, hi, ht])
    have hl : lk waysL (s, c) = none := by rw [lk_ways, ht]; rfl
    clear ht
    go_enter Tryz.func98, Tryz.ntmps98
    go_wp2_with fail
    refine (ways_any _).mono ?_
    rintro e w1 ⟨b, rfl, hm, hb, -⟩
    go_wp2_with (at_lookup; refine wpList_lookup_map (K := stepK) rfl _ _ 183 true rfl Tryz.underlying183 Hz.out rfl hm (s, c) ⟨Hs.out, Hc.out⟩ rfl ?_)
    refine (is_any _ _).mono ?_
    rintro e w' ⟨rfl, rfl⟩
    go_wp2_with fail
    refine (known_any _ _ _ _ (hm.kept (Below.refl _ _))).mono ?_
    rintro e w2 ⟨rfl, hb2⟩
    rw [hasCmd_ways]
    go_wp2
    go_ret2
    exact ⟨ret_ui2 (by rw [F.out]), bt hb hb2⟩
  | some v =>
    have F := hid (show nextI s c = (v, 0) by simp [nextI, hk, hi, ht])
    have hl : lk waysL (s, c) = some (.int .u8 v) := by rw [lk_ways, ht]; rfl
    clear ht
    go_enter Tryz.func98, Tryz.ntmps98
    go_wp2_with fail
    refine (ways_any _).mono ?_
    rintro e w1 ⟨b, rfl, hm, hb, -⟩
    go_wp2_with (at_lookup; refine wpList_lookup_map (K := stepK) rfl _ _ 183 true rfl Tryz.underlying183 Hz.out rfl hm (s, c) ⟨Hs.out, Hc.out⟩ rfl ?_)
    refine (is_any _ _).mono ?_
    rintro e w' ⟨rfl, rfl⟩
    go_wp2_with fail
    refine (known_any _ _ _ _ (hm.kept (Below.refl _ _))).mono ?_
    rintro e w2 ⟨rfl, hb2⟩
    rw [hasCmd_ways]
    go_wp2
    go_ret2
    exact ⟨ret_ui2 (by rw [F.out]), bt hb hb2⟩
end Go.Proofs.YtdnaegleifhmgaaGreat
end
section
namespace Go.Proofs.YtdnaegleifhmgaaGreat
open Go.RowKit Go.Lib Go.Tk Go.Shelf Go.Vc Go.Sx
def NextF : Nat := 98
theorem next_w {s c : Int} (hs : 0 ≤ s ∧ s ≤ 255) (hc : 0 ≤ c ∧ c ≤ 255) : CallOK Tryz.prog NextF [.val (.int .u8 s), .val (.int .u8 c)] [] [] (.tup [.val (.int .u8 (nextI s c).1), eN (nextI s c).2]) [] := by
  exact callOK_pure fun ε w => next_any s c w (wf_u8 hs) (wf_u8 hc)
end Go.Proofs.YtdnaegleifhmgaaGreat
end
section
namespace Go.Proofs.YtdnaegleifhmgaaGreat
open Go.RowKit Go.Lib Go.Tk Go.Shelf Go.Vc Go.Sx
def CesayF : Nat := 60
def CelookF : Nat := 59
theorem cesay_w (c : CmdV) (A : SaleA) (who : Int) : CallOK Tryz.prog CesayF [.ptr 0 0 0, .val (.int .u8 who), .agg (cmdS c A)] [] [] (.tup [.agg (repS 0 c.t 0 nilS), eN 0]) [] := callOK_run 400 [] (by kernel_rfl) (by kernel_rfl)
theorem celook_w (c : CmdV) (A : SaleA) (who : Int) : CallOK Tryz.prog CelookF [.ptr 0 0 0, .val (.int .u8 who), .agg (cmdS c A)] [] [] (.tup [.agg (repS 0 tid0 0 nilS), eN 0]) [] := callOK_run 400 [] (by kernel_rfl) (by kernel_rfl)
def CmdV.k (c : CmdV) : Kid := ⟨c.t, c.i⟩
def giveS (s : SlipV) (c : Int) : SlipV := { s with p := { s.p with way := true, car := c } }
def ceGive (B : LedV) (who : Int) (c : CmdV) : CR :=
  bif !(lkt B.slips c.k).isSome || decide (who = c.t.c) then failC 4 B
  else bif !(sAt B.slips c.k).at_ who then failC 160 B
  else bif !decide ((sAt B.slips c.k).p.st = 1) then failC 6 B
  else ⟨0, c.t, 0, [], B.setS (putt B.slips c.k (giveS (sAt B.slips c.k) c.t.c))⟩
def CegiveF : Nat := 57
def crP' (F : CF) (q : CR) : Heap := ledH F q.b ++ [((1, 0), stVL q.st)]
theorem cegive_w (F : CF) (B : LedV) {c : CmdV} (hk : KidOk c.k) (A : SaleA) (who : Int) :
    CallOK Tryz.prog CegiveF [.ptr 0 0 0, .val (.int .u8 who), .agg (cmdS c A)] [] (ledH F B) (crV (ceGive B who c)) (crP' F (ceGive B who c)) := by
  have c1 := look_slips B.slips hk
  have e0 : (lkt B.slips c.k).getD slip0 = sAt B.slips c.k := rfl
  rw [e0] at c1
  have c2 := sat_w (sAt B.slips c.k) who
  have c3 := cfree_w (sAt B.slips c.k).p.st
  have c4 := upd_slips B.slips hk (giveS (sAt B.slips c.k) c.t.c) (List.Perm.refl _)
  have c5 := cesay_w c A who
  unfold ceGive
  clear e0
  rcases Bool.eq_false_or_eq_true (lkt B.slips c.k).isSome with e1 | e1
  · rcases Bool.eq_false_or_eq_true (decide (who = c.t.c)) with e2 | e2
    · simp only [e1, e2] at c1 ⊢
      exact callOK_run 400 [hG 2 5 c1, hB 3 7 _ _ e2] (by kernel_rfl) (by kernel_rfl)
    · rcases Bool.eq_false_or_eq_true ((sAt B.slips c.k).at_ who) with e3 | e3
      · rcases Bool.eq_false_or_eq_true (decide ((sAt B.slips c.k).p.st = 1)) with e4 | e4
        · simp only [e1, e2, e3, e4] at c1 c2 c3 ⊢
          exact callOK_run 400 [hG 2 5 c1, hB 3 7 _ _ e2, hC 5 2 c2, hC 7 3 c3, hG 10 6 c4, hC 11 3 c5] (by kernel_rfl) (by kernel_rfl)
        · simp only [e1, e2, e3, e4] at c1 c2 c3 ⊢
          exact callOK_run 400 [hG 2 5 c1, hB 3 7 _ _ e2, hC 5 2 c2, hC 7 3 c3] (by kernel_rfl) (by kernel_rfl)
      · simp only [e1, e2, e3] at c1 c2 ⊢
        exact callOK_run 400 [hG 2 5 c1, hB 3 7 _ _ e2, hC 5 2 c2] (by kernel_rfl) (by kernel_rfl)
  · simp only [e1] at c1 ⊢
    exact callOK_run 400 [hG 2 5 c1] (by kernel_rfl) (by kernel_rfl)
def useS (s : SlipV) (n : Int) (b : Bool) : SlipV := { s with p := { s.p with st := n, paid := b } }
def useP (s : SlipV) (n who c : Int) : Bool := s.p.paid || (decide (n = 4) && decide (who = c))
def ceUse (B : LedV) (who : Int) (c : CmdV) : CR :=
  bif !(lkt B.slips c.k).isSome then failC 4 B
  else bif !(sAt B.slips c.k).at_ who || ((sAt B.slips c.k).l.c != who) then failC 160 B
  else bif !decide ((nextI (sAt B.slips c.k).p.st c.kind).2 = 0) then failC (nextI (sAt B.slips c.k).p.st c.kind).2 B
  else ⟨0, c.t, 0, [], B.setS (putt B.slips c.k (useS (sAt B.slips c.k) (nextI (sAt B.slips c.k).p.st c.kind).1 (useP (sAt B.slips c.k) (nextI (sAt B.slips c.k).p.st c.kind).1 who c.t.c)))⟩
def CeuseF : Nat := 58
theorem cst_at {S : SlipsV} (h : SlipsSt S) (k : Kid) : (0 ≤ (sAt S k).p.st ∧ (sAt S k).p.st ≤ 255) ∧ 0 ≤ (sAt S k).p.nonce ∧ (sAt S k).p.nonce ≤ 4294967295 := by
  unfold sAt
  cases e : lkt S k with
  | none => exact ⟨⟨by decide, by decide⟩, by decide, by decide⟩
  | some s => exact h k s e
theorem ceuse_w (F : CF) (B : LedV) (hs : SlipsSt B.slips) {c : CmdV} (hk : KidOk c.k) (hc : 0 ≤ c.kind ∧ c.kind ≤ 255) (A : SaleA) (who : Int) :
    CallOK Tryz.prog CeuseF [.ptr 0 0 0, .val (.int .u8 who), .agg (cmdS c A)] [] (ledH F B) (crV (ceUse B who c)) (crP' F (ceUse B who c)) := by
  have c1 := look_slips B.slips hk
  have e0 : (lkt B.slips c.k).getD slip0 = sAt B.slips c.k := rfl
  rw [e0] at c1
  have c2 := sat_w (sAt B.slips c.k) who
  have c3 := next_w (s := (sAt B.slips c.k).p.st) (c := c.kind) (cst_at hs c.k).1 hc
  have c5 := cesay_w c A who
  unfold ceUse
  clear e0
  rcases Bool.eq_false_or_eq_true (lkt B.slips c.k).isSome with e1 | e1
  · rcases Bool.eq_false_or_eq_true ((sAt B.slips c.k).at_ who) with e2 | e2
    · rcases Bool.eq_false_or_eq_true ((sAt B.slips c.k).l.c != who) with e3 | e3
      · simp only [e1, e2, e3] at c1 c2 ⊢
        exact callOK_run 400 [hG 2 5 c1, hC 5 2 c2, hB 5 9 _ _ e3] (by kernel_rfl) (by kernel_rfl)
      · generalize nextI (sAt B.slips c.k).p.st c.kind = nx at *
        obtain ⟨n, x⟩ := nx
        have c4 := fun b => upd_slips B.slips hk (useS (sAt B.slips c.k) n b) (List.Perm.refl _)
        rcases Bool.eq_false_or_eq_true (decide (x = 0)) with e4 | e4
        · have e5 : (!decide (x = 0)) = false := by rw [e4]; rfl
          unfold useP
          rcases Bool.eq_false_or_eq_true (sAt B.slips c.k).p.paid with e6 | e6
          · have c6 := c4 true
            simp only [e1, e2, e3, e4, e6] at c1 c2 ⊢
            exact callOK_run 400 [hG 2 5 c1, hC 5 2 c2, hB 5 9 _ _ e3, hC 8 5 c3, hB 9 1 _ _ e5, hB 11 2 _ _ e6, hG 12 6 c6, hC 13 3 c5] (by kernel_rfl) (by kernel_rfl)
          · rcases Bool.eq_false_or_eq_true (decide (n = 4)) with e7 | e7
            · have c6 := c4 (decide (who = c.t.c))
              simp only [e1, e2, e3, e4, e6, e7] at c1 c2 ⊢
              exact callOK_run 400 [hG 2 5 c1, hC 5 2 c2, hB 5 9 _ _ e3, hC 8 5 c3, hB 9 1 _ _ e5, hB 11 2 _ _ e6, hB 11 7 _ _ e7, hG 12 6 c6, hC 13 3 c5] (by kernel_rfl) (by kernel_rfl)
            · have c6 := c4 false
              simp only [e1, e2, e3, e4, e6, e7] at c1 c2 ⊢
              exact callOK_run 400 [hG 2 5 c1, hC 5 2 c2, hB 5 9 _ _ e3, hC 8 5 c3, hB 9 1 _ _ e5, hB 11 2 _ _ e6, hB 11 7 _ _ e7, hG 12 6 c6, hC 13 3 c5] (by kernel_rfl) (by kernel_rfl)
        · have e5 : (!decide (x = 0)) = true := by rw [e4]; rfl
          simp only [e1, e2, e3, e4] at c1 c2 ⊢
          exact callOK_run 400 [hG 2 5 c1, hC 5 2 c2, hB 5 9 _ _ e3, hC 8 5 c3, hB 9 1 _ _ e5] (by kernel_rfl) (by kernel_rfl)
    · simp only [e1, e2] at c1 c2 ⊢
      exact callOK_run 400 [hG 2 5 c1, hC 5 2 c2] (by kernel_rfl) (by kernel_rfl)
  · simp only [e1] at c1 ⊢
    exact callOK_run 400 [hG 2 5 c1] (by kernel_rfl) (by kernel_rfl)
end Go.Proofs.YtdnaegleifhmgaaGreat
end
section
namespace Go.Proofs.YtdnaegleifhmgaaGreat
open Go.RowKit Go.Lib Go.Tk Go.Shelf Go.Vc Go.Sx
def wayS (s : SlipV) (b : Bool) : SlipV := { s with p := { s.p with way := b } }
def goS (s : SlipV) (c n : Int) : SlipV := { s with p := { s.p with way := true, car := c, nonce := n } }
def payS (s : SlipV) : SlipV := { s with p := { s.p with paid := true } }
def pkWant (s : SlipV) (who src : Int) (m : MsV) : SlipV := bif decide (m.key.t.c = who) && (s.free && (decide (s.l.c = src) && decide (s.p.nonce < 4294967295))) then goS s src (s.p.nonce + 1) else s
def pkGrant (s : SlipV) (who src : Int) (m : MsV) : SlipV := bif decide (m.key.t.c = src) && s.under who m.k.n then wayS s false else s
def pkRet (s : SlipV) (who src : Int) (m : MsV) : SlipV := bif decide (m.key.t.c = who) && s.under who m.k.n then wayS s false else s
def pkRec (s : SlipV) (who src : Int) (m : MsV) : SlipV := bif decide (m.key.t.c = src) && (s.at_ who && decide (s.p.st = 1)) then goS s src s.p.nonce else s
def pkBill (s : SlipV) (who src : Int) (m : MsV) : SlipV := bif decide (m.key.t.c = who) && (s.at_ src && (decide (s.p.st = 4) && (!s.p.paid && decide (s.v = m.amt)))) then payS s else s
def pk (s : SlipV) (who src : Int) (m : MsV) : SlipV :=
  if m.kind = 1 then pkWant s who src m else if m.kind = 2 then pkGrant s who src m else if m.kind = 5 then pkRet s who src m else if m.kind = 4 then pkRec s who src m else if m.kind = 6 then pkBill s who src m else s
def pkS (S : SlipsV) (who src : Int) (m : MsV) : SlipsV := bif (lkt S m.key).isSome then putt S m.key (pk (sAt S m.key) who src m) else S
def CepackF : Nat := 31
theorem cepack_w (F : CF) (B : LedV) (hs : SlipsSt B.slips) {m : MsV} (hk : KidOk m.key) (who src : Int) :
    CallOK Tryz.prog CepackF [.ptr 0 0 0, .val (.int .u8 who), .val (.int .u8 src), .agg (msS m)] [] (ledH F B) noS (ledH F (B.setS (pkS B.slips who src m))) := by
  have c1 := look_slips B.slips hk
  have e0 : (lkt B.slips m.key).getD slip0 = sAt B.slips m.key := rfl
  rw [e0] at c1
  have c2 := sfree_w (sAt B.slips m.key)
  have c3 := sunder_w (sAt B.slips m.key) who m.k.n
  have c4 := sat_w (sAt B.slips m.key) who
  have c5 := sat_w (sAt B.slips m.key) src
  have c6 := cfree_w (sAt B.slips m.key).p.st
  have c7 := fun x => upd_slips B.slips hk x (List.Perm.refl _)
  have hn := (cst_at hs m.key).2
  unfold pkS
  clear e0
  rcases Bool.eq_false_or_eq_true (lkt B.slips m.key).isSome with e1 | e1
  rotate_left
  · simp only [e1] at c1 ⊢
    exact callOK_run 400 [hG 1 6 c1] (by kernel_rfl) (by kernel_rfl)
  simp only [e1] at c1 ⊢
  generalize sAt B.slips m.key = s at *
  have c8 := c7 s
  obtain ⟨kind, key, k, amt, code⟩ := m
  by_cases k1 : kind = 1
  · subst k1
    show CallOK _ _ _ _ _ _ (ledH F (B.setS (putt B.slips key (pkWant s who src _))))
    unfold pkWant
    have w1 : s.p.nonce < 4294967295 → IntKind.u32.wrap (s.p.nonce + 1) = s.p.nonce + 1 := fun h => wr_u32 (by omega)
    rcases Bool.eq_false_or_eq_true (decide (key.t.c = who)) with g1 | g1
    · rcases Bool.eq_false_or_eq_true s.free with g2 | g2
      · rcases Bool.eq_false_or_eq_true (decide (s.l.c = src)) with g3 | g3
        · rcases Bool.eq_false_or_eq_true (decide (s.p.nonce < 4294967295)) with g4 | g4
          · have w2 := w1 (of_decide_eq_true g4)
            have c9 := c7 (goS s src (s.p.nonce + 1))
            simp only [g1, g2, g3, g4] at c2 ⊢
            exact callOK_run 400 [hG 1 6 c1, hB 4 6 _ _ g1, hC 4 10 c2, hB 4 17 _ _ g3, hB 4 23 _ _ g4, hI 5 3 IntKind.u32 _ _ w2, hG 14 7 c9] (by kernel_rfl) (by kernel_rfl)
          · simp only [g1, g2, g3, g4] at c2 ⊢
            exact callOK_run 400 [hG 1 6 c1, hB 4 6 _ _ g1, hC 4 10 c2, hB 4 17 _ _ g3, hB 4 23 _ _ g4, hG 14 7 c8] (by kernel_rfl) (by kernel_rfl)
        · simp only [g1, g2, g3] at c2 ⊢
          exact callOK_run 400 [hG 1 6 c1, hB 4 6 _ _ g1, hC 4 10 c2, hB 4 17 _ _ g3, hG 14 7 c8] (by kernel_rfl) (by kernel_rfl)
      · simp only [g1, g2] at c2 ⊢
        exact callOK_run 400 [hG 1 6 c1, hB 4 6 _ _ g1, hC 4 10 c2, hG 14 7 c8] (by kernel_rfl) (by kernel_rfl)
    · simp only [g1] at c2 ⊢
      exact callOK_run 400 [hG 1 6 c1, hB 4 6 _ _ g1, hG 14 7 c8] (by kernel_rfl) (by kernel_rfl)
  by_cases k2 : kind = 2
  · subst k2
    show CallOK _ _ _ _ _ _ (ledH F (B.setS (putt B.slips key (pkGrant s who src _))))
    unfold pkGrant
    rcases Bool.eq_false_or_eq_true (decide (key.t.c = src)) with g1 | g1
    · rcases Bool.eq_false_or_eq_true (s.under who k.n) with g2 | g2
      · have c9 := c7 (wayS s false)
        simp only [g1, g2] at c3 ⊢
        exact callOK_run 400 [hG 1 6 c1, hB 7 6 _ _ g1, hC 7 14 c3, hG 14 7 c9] (by kernel_rfl) (by kernel_rfl)
      · simp only [g1, g2] at c3 ⊢
        exact callOK_run 400 [hG 1 6 c1, hB 7 6 _ _ g1, hC 7 14 c3, hG 14 7 c8] (by kernel_rfl) (by kernel_rfl)
    · simp only [g1] at ⊢
      exact callOK_run 400 [hG 1 6 c1, hB 7 6 _ _ g1, hG 14 7 c8] (by kernel_rfl) (by kernel_rfl)
  by_cases k5 : kind = 5
  · subst k5
    show CallOK _ _ _ _ _ _ (ledH F (B.setS (putt B.slips key (pkRet s who src _))))
    unfold pkRet
    rcases Bool.eq_false_or_eq_true (decide (key.t.c = who)) with g1 | g1
    · rcases Bool.eq_false_or_eq_true (s.under who k.n) with g2 | g2
      · have c9 := c7 (wayS s false)
        simp only [g1, g2] at c3 ⊢
        exact callOK_run 400 [hG 1 6 c1, hB 8 6 _ _ g1, hC 8 14 c3, hG 14 7 c9] (by kernel_rfl) (by kernel_rfl)
      · simp only [g1, g2] at c3 ⊢
        exact callOK_run 400 [hG 1 6 c1, hB 8 6 _ _ g1, hC 8 14 c3, hG 14 7 c8] (by kernel_rfl) (by kernel_rfl)
    · simp only [g1] at ⊢
      exact callOK_run 400 [hG 1 6 c1, hB 8 6 _ _ g1, hG 14 7 c8] (by kernel_rfl) (by kernel_rfl)
  by_cases k4 : kind = 4
  · subst k4
    show CallOK _ _ _ _ _ _ (ledH F (B.setS (putt B.slips key (pkRec s who src _))))
    unfold pkRec
    rcases Bool.eq_false_or_eq_true (decide (key.t.c = src)) with g1 | g1
    · rcases Bool.eq_false_or_eq_true (s.at_ who) with g2 | g2
      · rcases Bool.eq_false_or_eq_true (decide (s.p.st = 1)) with g3 | g3
        · have c9 := c7 (goS s src s.p.nonce)
          simp only [g1, g2, g3] at c4 c6 ⊢
          exact callOK_run 400 [hG 1 6 c1, hB 10 6 _ _ g1, hC 10 11 c4, hC 10 17 c6, hG 14 7 c9] (by kernel_rfl) (by kernel_rfl)
        · simp only [g1, g2, g3] at c4 c6 ⊢
          exact callOK_run 400 [hG 1 6 c1, hB 10 6 _ _ g1, hC 10 11 c4, hC 10 17 c6, hG 14 7 c8] (by kernel_rfl) (by kernel_rfl)
      · simp only [g1, g2] at c4 ⊢
        exact callOK_run 400 [hG 1 6 c1, hB 10 6 _ _ g1, hC 10 11 c4, hG 14 7 c8] (by kernel_rfl) (by kernel_rfl)
    · simp only [g1] at ⊢
      exact callOK_run 400 [hG 1 6 c1, hB 10 6 _ _ g1, hG 14 7 c8] (by kernel_rfl) (by kernel_rfl)
  by_cases k6 : kind = 6
  · subst k6
    show CallOK _ _ _ _ _ _ (ledH F (B.setS (putt B.slips key (pkBill s who src _))))
    unfold pkBill
    rcases Bool.eq_false_or_eq_true (decide (key.t.c = who)) with g1 | g1
    · rcases Bool.eq_false_or_eq_true (s.at_ src) with g2 | g2
      · rcases Bool.eq_false_or_eq_true (decide (s.p.st = 4)) with g3 | g3
        · rcases Bool.eq_false_or_eq_true s.p.paid with g4 | g4
          · simp only [g1, g2, g3, g4] at c5 ⊢
            exact callOK_run 400 [hG 1 6 c1, hB 12 6 _ _ g1, hC 12 11 c5, hB 12 17 _ _ g3, hB 12 22 _ _ g4, hG 14 7 c8] (by kernel_rfl) (by kernel_rfl)
          · rcases Bool.eq_false_or_eq_true (decide (s.v = amt)) with g5 | g5
            · have c9 := c7 (payS s)
              simp only [g1, g2, g3, g4, g5] at c5 ⊢
              exact callOK_run 400 [hG 1 6 c1, hB 12 6 _ _ g1, hC 12 11 c5, hB 12 17 _ _ g3, hB 12 22 _ _ g4, hB 12 30 _ _ g5, hG 14 7 c9] (by kernel_rfl) (by kernel_rfl)
            · simp only [g1, g2, g3, g4, g5] at c5 ⊢
              exact callOK_run 400 [hG 1 6 c1, hB 12 6 _ _ g1, hC 12 11 c5, hB 12 17 _ _ g3, hB 12 22 _ _ g4, hB 12 30 _ _ g5, hG 14 7 c8] (by kernel_rfl) (by kernel_rfl)
        · simp only [g1, g2, g3] at c5 ⊢
          exact callOK_run 400 [hG 1 6 c1, hB 12 6 _ _ g1, hC 12 11 c5, hB 12 17 _ _ g3, hG 14 7 c8] (by kernel_rfl) (by kernel_rfl)
      · simp only [g1, g2] at c5 ⊢
        exact callOK_run 400 [hG 1 6 c1, hB 12 6 _ _ g1, hC 12 11 c5, hG 14 7 c8] (by kernel_rfl) (by kernel_rfl)
    · simp only [g1] at ⊢
      exact callOK_run 400 [hG 1 6 c1, hB 12 6 _ _ g1, hG 14 7 c8] (by kernel_rfl) (by kernel_rfl)
  have f1 : decide (kind = 1) = false := decide_eq_false k1
  have f2 : decide (kind = 2) = false := decide_eq_false k2
  have f5 : decide (kind = 5) = false := decide_eq_false k5
  have f4 : decide (kind = 4) = false := decide_eq_false k4
  have f6 : decide (kind = 6) = false := decide_eq_false k6
  have hp : pk s who src ⟨kind, key, k, amt, code⟩ = s := by
    unfold pk
    rw [if_neg k1, if_neg k2, if_neg k5, if_neg k4, if_neg k6]
  rw [hp]
  exact callOK_run 400 [hG 1 6 c1, hB 4 2 _ _ f1, hB 7 2 _ _ f2, hB 8 2 _ _ f5, hB 10 2 _ _ f4, hB 12 2 _ _ f6, hG 14 7 c8] (by kernel_rfl) (by kernel_rfl)
end Go.Proofs.YtdnaegleifhmgaaGreat
end
