/- CODEC: records that are read. -/
import Derived.Test.YtfcjmpgbohgoeaaCo21
namespace Go.Proofs.Ytfcjmpgbohgoeaa
open Go.RowKit Go.Lib Go.Tk Go.Shelf Go.Vc
set_option linter.unusedVariables false
set_option linter.unusedSimpArgs false
structure RecOkT (r : RecV) : Prop where
 i : RecIn r
 s : Short r.cmd
 k : 1 ≤ r.kind ∧ r.kind ≤ 3
 c : cutV r = r
theorem cmdIn0 : CmdIn cmd0 := ⟨⟨by decide, by decide⟩, ⟨⟨by decide, by decide⟩, ⟨by decide, by decide⟩⟩, ⟨by decide, by decide⟩, by decide, by decide, (fun l h => by cases h), ⟨by decide, by decide⟩, by decide, (fun l h => by cases h), ⟨by decide, by decide⟩, ⟨by decide, by decide⟩⟩
theorem short0 : Short cmd0 := ⟨by decide, by decide, by decide, fun t h => by cases h⟩
theorem msgIn0 : MsgIn msg0 := ⟨⟨by decide, by decide⟩, ⟨⟨by decide, by decide⟩, ⟨by decide, by decide⟩⟩, ⟨by decide, by decide⟩, ⟨⟨by decide, by decide⟩, ⟨by decide, by decide⟩, ⟨by decide, by decide⟩⟩, ⟨by decide, by decide⟩, ⟨by decide, by decide⟩, ⟨by decide, by decide⟩, ⟨by decide, by decide⟩, ⟨by decide, by decide⟩⟩
set_option maxHeartbeats 1000000 in
theorem over_back (r : RecV) (h : RecOkT r) (rest : List Int) : overF tk ⟨false, recBy r ++ rest⟩ rec0 = (r, ⟨false, rest⟩) := by
  obtain ⟨k, c, f, n, m⟩ := r
  have hc := h.c
  have hk := h.k
  obtain ⟨T, hT⟩ : ∃ T, T = (if k = 1 then cmdBy c else if k = 2 then encN f 1 ++ (encN n 8 ++ msgBy m) else encN f 1 ++ encN n 8) := ⟨_, rfl⟩
  have e0 : recBy ⟨k, c, f, n, m⟩ ++ rest = encN k 1 ++ (T ++ rest) := by
   rw [hT, ← List.append_assoc]; rfl
  have e1 : ov1 tk ⟨false, encN k 1 ++ (T ++ rest)⟩ rec0 = (k, ⟨false, T ++ rest⟩) := (fld_takes fit_u8 0).back k h.i.kind _
  have e2 : ov2 tk ⟨false, encN k 1 ++ (T ++ rest)⟩ rec0 = fld .u8 tk (ov1 tk ⟨false, encN k 1 ++ (T ++ rest)⟩ rec0).2 0 1 := rfl
  have e3 : ov3 tk ⟨false, encN k 1 ++ (T ++ rest)⟩ rec0 = num tk (ov2 tk ⟨false, encN k 1 ++ (T ++ rest)⟩ rec0).2 0 8 := rfl
  rw [e1] at e2
  rw [e0]
  unfold overF
  rw [e1]
  unfold cutV at hc
  by_cases k1 : k = 1
  ·
   subst k1
   rw [if_pos rfl] at hc hT
   subst hT
   injection hc with _ _ e3 e4 e5
   subst e3; subst e4; subst e5
   rw [if_pos rfl]
   have e6 : cmdF tk ⟨false, cmdBy c ++ rest⟩ rec0.cmd = (c, ⟨false, rest⟩) := cmd_takes.back c ⟨h.i.cmd, h.s⟩ rest
   rw [e6]; rfl
  ·
   rw [if_neg k1] at hc hT
   rw [if_neg k1]
   by_cases k2 : k = 2
   ·
    subst k2
    rw [if_pos rfl] at hc hT
    subst hT
    injection hc with _ e4 _ _ _
    subst e4
    rw [if_pos rfl]
    have e4 : fld .u8 tk ⟨false, encN f 1 ++ (encN n 8 ++ (msgBy m ++ rest))⟩ 0 1 = (f, ⟨false, encN n 8 ++ (msgBy m ++ rest)⟩) := (fld_takes fit_u8 0).back f h.i.frm _
    have e5 : num tk ⟨false, encN n 8 ++ (msgBy m ++ rest)⟩ 0 8 = (n, ⟨false, msgBy m ++ rest⟩) := (u64_takes 0).back n h.i.number _
    have e6 : msgF tk ⟨false, msgBy m ++ rest⟩ rec0.msg = (m, ⟨false, rest⟩) := msg_takes.back m h.i.msg rest
    simp only [List.append_assoc] at e2 e3 ⊢
    rw [e4] at e2
    rw [e2, e5] at e3
    rw [e2, e3, e6]; rfl
   ·
    have k3 : k = 3 := by have : 1 ≤ k ∧ k ≤ 3 := hk; omega
    subst k3
    rw [if_neg k2] at hc hT
    subst hT
    injection hc with _ e4 _ _ e5
    subst e4; subst e5
    rw [if_neg k2, if_pos rfl]
    have e4 : fld .u8 tk ⟨false, encN f 1 ++ (encN n 8 ++ rest)⟩ 0 1 = (f, ⟨false, encN n 8 ++ rest⟩) := (fld_takes fit_u8 0).back f h.i.frm _
    have e5 : num tk ⟨false, encN n 8 ++ rest⟩ 0 8 = (n, ⟨false, rest⟩) := (u64_takes 0).back n h.i.number _
    simp only [List.append_assoc] at e2 e3 ⊢
    rw [e4] at e2
    rw [e2, e5] at e3
    rw [e2, e3]; rfl
theorem over_tk (σ : WS) : overF tk σ rec0 = (if (ov1 tk σ rec0).1 = 1 then (⟨(ov1 tk σ rec0).1, (cmdF tk (ov1 tk σ rec0).2 cmd0).1, 0, 0, msg0⟩, (cmdF tk (ov1 tk σ rec0).2 cmd0).2)
   else if (ov1 tk σ rec0).1 = 2 then (⟨(ov1 tk σ rec0).1, cmd0, (ov2 tk σ rec0).1, (ov3 tk σ rec0).1, (msgF tk (ov3 tk σ rec0).2 msg0).1⟩, (msgF tk (ov3 tk σ rec0).2 msg0).2)
   else if (ov1 tk σ rec0).1 = 3 then (⟨(ov1 tk σ rec0).1, cmd0, (ov2 tk σ rec0).1, (ov3 tk σ rec0).1, msg0⟩, (ov3 tk σ rec0).2)
   else (⟨(ov1 tk σ rec0).1, cmd0, 0, 0, msg0⟩, ⟨true, (ov1 tk σ rec0).2.bs⟩)) := rfl
set_option maxHeartbeats 1000000 in
theorem over_fwd (σ : WS) (h1 : σ.bad = false) (h2 : By σ.bs) (h3 : (overF tk σ rec0).2.bad = false) : RecOkT (overF tk σ rec0).1 ∧ σ.bs = recBy (overF tk σ rec0).1 ++ (overF tk σ rec0).2.bs := by
  have T1 := (fld_takes fit_u8 0).fwd σ h1 h2
  have B2 := (fld_takes fit_u8 0).bad (ov1 tk σ rec0).2
  have T2 := (fld_takes fit_u8 0).fwd (ov1 tk σ rec0).2
  have B3 := (u64_takes 0).bad (ov2 tk σ rec0).2
  have T3 := (u64_takes 0).fwd (ov2 tk σ rec0).2
  change (ov1 tk σ rec0).2.bad = false → In .u8 (ov1 tk σ rec0).1 ∧ σ.bs = encN (ov1 tk σ rec0).1 1 ++ (ov1 tk σ rec0).2.bs at T1
  change (ov1 tk σ rec0).2.bad = true → (ov2 tk σ rec0).2.bad = true at B2
  change (ov1 tk σ rec0).2.bad = false → By (ov1 tk σ rec0).2.bs → (ov2 tk σ rec0).2.bad = false → In .u8 (ov2 tk σ rec0).1 ∧ (ov1 tk σ rec0).2.bs = encN (ov2 tk σ rec0).1 1 ++ (ov2 tk σ rec0).2.bs at T2
  change (ov2 tk σ rec0).2.bad = true → (ov3 tk σ rec0).2.bad = true at B3
  change (ov2 tk σ rec0).2.bad = false → By (ov2 tk σ rec0).2.bs → (ov3 tk σ rec0).2.bad = false → In .u64 (ov3 tk σ rec0).1 ∧ (ov2 tk σ rec0).2.bs = encN (ov3 tk σ rec0).1 8 ++ (ov3 tk σ rec0).2.bs at T3
  have CF := cmd_takes.fwd (ov1 tk σ rec0).2
  have CB := cmd_takes.bad (ov1 tk σ rec0).2
  have MF := msg_takes.fwd (ov3 tk σ rec0).2
  have MB := msg_takes.bad (ov3 tk σ rec0).2
  have hov := over_tk σ
  rw [hov] at h3 ⊢
  clear hov
  generalize cmdF tk (ov1 tk σ rec0).2 cmd0 = qc at *
  generalize msgF tk (ov3 tk σ rec0).2 msg0 = qm at *
  generalize ov3 tk σ rec0 = o3 at *
  generalize ov2 tk σ rec0 = o2 at *
  generalize ov1 tk σ rec0 = o1 at *
  have nb : ∀ {a b : Bool}, (a = true → b = true) → b = false → a = false := fun {a b} h hb => by
   cases a with
   | false => rfl
   | true => rw [h rfl] at hb; cases hb
  by_cases k1 : o1.1 = 1
  ·
   rw [if_pos k1] at h3 ⊢
   have h3 : qc.2.bad = false := h3
   have b1 := nb CB h3
   obtain ⟨p1, q1⟩ := T1 b1
   obtain ⟨p2, q2⟩ := CF b1 (by rw [q1] at h2; exact h2.rest) h3
   refine ⟨⟨⟨p1, p2.i, (show In .u8 0 from ⟨by decide, by decide⟩), (show In .u64 0 from ⟨by decide, by decide⟩), msgIn0⟩, p2.s, ⟨by show 1 ≤ o1.1; omega, by show o1.1 ≤ 3; omega⟩, if_pos k1⟩, ?_⟩
   show σ.bs = (encN o1.1 1 ++ (if o1.1 = 1 then cmdBy qc.1 else _)) ++ qc.2.bs
   rw [if_pos k1, List.append_assoc, ← q2]; exact q1
  ·
   rw [if_neg k1] at h3 ⊢
   by_cases k2 : o1.1 = 2
   ·
    rw [if_pos k2] at h3 ⊢
    have h3 : qm.2.bad = false := h3
    have b3 := nb MB h3
    have b2 := nb B3 b3
    have b1 := nb B2 b2
    obtain ⟨p1, q1⟩ := T1 b1
    have y1 : By o1.2.bs := by rw [q1] at h2; exact h2.rest
    obtain ⟨p2, q2⟩ := T2 b1 y1 b2
    have y2 : By o2.2.bs := by rw [q2] at y1; exact y1.rest
    obtain ⟨p3, q3⟩ := T3 b2 y2 b3
    obtain ⟨p4, q4⟩ := MF b3 (by rw [q3] at y2; exact y2.rest) h3
    refine ⟨⟨⟨p1, cmdIn0, p2, p3, p4⟩, short0, ⟨by show 1 ≤ o1.1; omega, by show o1.1 ≤ 3; omega⟩, (if_neg k1).trans (if_pos k2)⟩, ?_⟩
    show σ.bs = (encN o1.1 1 ++ (if o1.1 = 1 then _ else if o1.1 = 2 then encN o2.1 1 ++ (encN o3.1 8 ++ msgBy qm.1) else _)) ++ qm.2.bs
    rw [if_neg k1, if_pos k2]
    simp only [List.append_assoc]
    rw [← q4, ← q3, ← q2]; exact q1
   ·
    rw [if_neg k2] at h3 ⊢
    by_cases k3 : o1.1 = 3
    ·
     rw [if_pos k3] at h3 ⊢
     have b3 : o3.2.bad = false := h3
     have b2 := nb B3 b3
     have b1 := nb B2 b2
     obtain ⟨p1, q1⟩ := T1 b1
     have y1 : By o1.2.bs := by rw [q1] at h2; exact h2.rest
     obtain ⟨p2, q2⟩ := T2 b1 y1 b2
     have y2 : By o2.2.bs := by rw [q2] at y1; exact y1.rest
     obtain ⟨p3, q3⟩ := T3 b2 y2 b3
     refine ⟨⟨⟨p1, cmdIn0, p2, p3, msgIn0⟩, short0, ⟨by show 1 ≤ o1.1; omega, by show o1.1 ≤ 3; omega⟩, (if_neg k1).trans (if_neg k2)⟩, ?_⟩
     show σ.bs = (encN o1.1 1 ++ (if o1.1 = 1 then _ else if o1.1 = 2 then _ else encN o2.1 1 ++ encN o3.1 8)) ++ o3.2.bs
     rw [if_neg k1, if_neg k2]
     simp only [List.append_assoc]
     rw [← q3, ← q2]; exact q1
    · rw [if_neg k3] at h3; cases h3
theorem over_bad (σ : WS) (hb : σ.bad = true) : (overF tk σ rec0).2.bad = true := by
  have c1 : (ov1 tk σ rec0).2.bad = true := (fld_takes fit_u8 0).bad σ hb
  have c2 : (ov2 tk σ rec0).2.bad = true := (fld_takes fit_u8 0).bad _ c1
  have c3 : (ov3 tk σ rec0).2.bad = true := (u64_takes 0).bad _ c2
  have c4 := cmd_takes.bad _ c1
  have c5 := msg_takes.bad _ c3
  rw [over_tk]
  split
  · dsimp only; exact c4
  ·
   split
   · dsimp only; exact c5
   ·
    split
    · exact c3
    · rfl

theorem over_takes : Takes (overF tk) rec0 RecOkT recBy where
 back x hx rest := over_back x hx rest
 fwd σ h1 h2 h3 := over_fwd σ h1 h2 h3
 bad σ hb := over_bad σ hb
/-! ### the laws in plain words -/
theorem putOk_T {r : RecV} (hi : RecIn r) (h : putE r = 0) : RecOkT r ∧ putB r = recBy r := by
 obtain ⟨h1, h2, h3⟩ := put_ok h
 exact ⟨⟨hi, short_of h3, h1, h2⟩, putB_eq h hi⟩
theorem get_put {r : RecV} (h : RecOkT r) (rest : List Int) : ovT (recBy r ++ rest) = (r, ⟨false, rest⟩) := over_takes.back r h rest
theorem get_of_put {r : RecV} (hi : RecIn r) (h : putE r = 0) : getE (putB r) = 0 ∧ getR (putB r) = r := by
 obtain ⟨h1, h2⟩ := putOk_T hi h
 have e := get_put h1 []
 rw [List.append_nil, ← h2] at e
 have nb : ¬ badT (putB r) := by
  unfold badT; rw [e]; rintro (h | h) <;> cases h
 exact ⟨if_neg nb, by unfold getR; rw [if_neg nb, e]⟩
end Go.Proofs.Ytfcjmpgbohgoeaa
