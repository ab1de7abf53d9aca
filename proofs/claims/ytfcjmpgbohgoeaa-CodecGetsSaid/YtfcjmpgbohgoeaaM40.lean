/- Co21, Co22. -/
import Derived.Test.YtfcjmpgbohgoeaaCo20
section
namespace Go.Proofs.Ytfcjmpgbohgoeaa
open Go.RowKit Go.Lib Go.Tk Go.Shelf Go.Vc
set_option linter.unusedVariables false
set_option linter.unusedSimpArgs false
structure CmdOkT (c : CmdV) : Prop where
 i : CmdIn c
 s : Short c
def cmdMk (p : Int × TickV × Int × Int × ByteArray × List LegV × Int × List TaxV × Int) : CmdV := ⟨p.1, p.2.1, p.2.2.1, p.2.2.2.2.1, p.2.2.2.2.2.1, p.2.2.2.2.2.2.1, p.2.2.2.2.2.2.2.1, p.2.2.2.2.2.2.2.2, p.2.2.2.1⟩
def cmdUn (c : CmdV) : Int × TickV × Int × Int × ByteArray × List LegV × Int × List TaxV × Int := (c.kind, c.tick, c.at_, c.amount, c.name, c.legs, c.fare, c.taxes, c.penalty)
theorem cmdF_via : cmdF tk = via cmdMk cmdUn (both (fun σ x => fld .u8 tk σ x 1) (both (tickF tk) (both (fun σ x => fld .u8 tk σ x 1) (both (fun σ x => fld .i64 tk σ x 8) (both (textF tk) (both (fun σ xs => listF (legF tk) ⟨0, 0, 0⟩ tk σ xs 4) (both (fun σ x => fld .i64 tk σ x 8) (both (fun σ xs => listF (taxF tk) ⟨ByteArray.empty, 0⟩ tk σ xs 4) (fun σ x => fld .i64 tk σ x 8))))))))) := by
 funext σ c
 simp only [cmdF, cd1, cd2, cd3, cd4, cd5, cd6, cd7, cd8, cd9, via, both, cmdMk, cmdUn]
set_option maxHeartbeats 4000000 in
theorem cmd_takes : Takes (cmdF tk) cmd0 CmdOkT cmdBy := by
 rw [cmdF_via]
 exact (Takes.via cmdMk cmdUn (fun _ => rfl) (fun _ => rfl) ((fld_takes fit_u8 0).both (tick_takes.both ((fld_takes fit_u8 0).both ((fld_takes fit_i64 0).both (text_takes.both ((list_takes leg_takes 4 (by decide)).both ((fld_takes fit_i64 0).both ((list_takes tax_takes 4 (by decide)).both (fld_takes fit_i64 0)))))))))).weaken
  (fun c => ⟨fun ⟨h1, h2, h3, h4, h5, h6, h7, h8, h9⟩ => ⟨⟨h1, h2, h3, Nat.le_trans h5 (by decide), Nat.le_trans h6.1 (by decide), h6.2, h7, Nat.le_trans h8.1 (by decide), fun t ht => ⟨Nat.le_trans (h8.2 t ht).1 (by decide), (h8.2 t ht).2⟩, h9, h4⟩, ⟨h5, h6.1, h8.1, fun t ht => (h8.2 t ht).1⟩⟩,
   fun h => ⟨h.i.kind, h.i.tick, h.i.at_, h.i.amount, h.s.name, ⟨h.s.legs, h.i.legs⟩, h.i.fare, ⟨h.s.taxes, fun t ht => ⟨h.s.codes t ht, (h.i.taxes t ht).amt⟩⟩, h.i.penalty⟩⟩) (fun _ _ => rfl)
def msgMk (p : Int × TickV × Int × LegV × Int × Int × Int × Int × Int) : MsgV := ⟨p.1, p.2.1, p.2.2.1, p.2.2.2.1, p.2.2.2.2.1, p.2.2.2.2.2.1, p.2.2.2.2.2.2.1, p.2.2.2.2.2.2.2.1, p.2.2.2.2.2.2.2.2⟩
def msgUn (m : MsgV) : Int × TickV × Int × LegV × Int × Int × Int × Int × Int := (m.kind, m.tick, m.at_, m.leg, m.value, m.status, m.nonce, m.amount, m.code)
theorem msgF_via : msgF tk = via msgMk msgUn (both (fun σ x => fld .u8 tk σ x 1) (both (tickF tk) (both (fun σ x => fld .u8 tk σ x 1) (both (legF tk) (both (fun σ x => fld .i64 tk σ x 8) (both (fun σ x => fld .u8 tk σ x 1) (both (fun σ x => fld .u32 tk σ x 4) (both (fun σ x => fld .i64 tk σ x 8) (fun σ x => fld .i64 tk σ x 8))))))))) := by
 funext σ c
 simp only [msgF, md1, md2, md3, md4, md5, md6, md7, md8, md9, via, both, msgMk, msgUn]
set_option maxHeartbeats 4000000 in
theorem msg_takes : Takes (msgF tk) msg0 MsgIn msgBy := by
 rw [msgF_via]
 exact (Takes.via msgMk msgUn (fun _ => rfl) (fun _ => rfl) ((fld_takes fit_u8 0).both (tick_takes.both ((fld_takes fit_u8 0).both (leg_takes.both ((fld_takes fit_i64 0).both ((fld_takes fit_u8 0).both ((fld_takes fit_u32 0).both ((fld_takes fit_i64 0).both (fld_takes fit_i64 0)))))))))).weaken
  (fun c => ⟨fun ⟨h1, h2, h3, h4, h5, h6, h7, h8, h9⟩ => ⟨h1, h2, h3, h4, h5, h6, h7, h8, h9⟩, fun h => ⟨h.kind, h.tick, h.at_, h.leg, h.value, h.status, h.nonce, h.amount, h.code⟩⟩) (fun _ _ => rfl)
end Go.Proofs.Ytfcjmpgbohgoeaa
end
section
namespace Go.Proofs.Ytfcjmpgbohgoeaa
open Go.RowKit Go.Lib Go.Tk Go.Shelf Go.Vc
set_option linter.unusedVariables false
set_option linter.unusedSimpArgs false
structure RecOkT (r : RecV) : Prop where
 i : RecIn r
 s : Short r.cmd
 k : 1 ≤ r.kind ∧ r.kind ≤ 3
 c : cutV r = r
theorem cmdIn0 : CmdIn cmd0 := ⟨⟨by decide, by decide⟩, ⟨⟨by decide, by decide⟩, ⟨by decide, by decide⟩⟩, ⟨by decide, by decide⟩, by decide, by decide, (fun l h => by cases h), ⟨by decide, by decide⟩, by decide, (fun l h => by cases h), ⟨by decide, by decide⟩, ⟨by decide, by decide⟩⟩
theorem short0 : Short cmd0 := ⟨by decide, by decide, by decide, fun t h => by cases h⟩
theorem msgIn0 : MsgIn msg0 := ⟨⟨by decide, by decide⟩, ⟨⟨by decide, by decide⟩, ⟨by decide, by decide⟩⟩, ⟨by decide, by decide⟩, ⟨⟨by decide, by decide⟩, ⟨by decide, by decide⟩, ⟨by decide, by decide⟩⟩, ⟨by decide, by decide⟩, ⟨by decide, by decide⟩, ⟨by decide, by decide⟩, ⟨by decide, by decide⟩, ⟨by decide, by decide⟩⟩
set_option maxHeartbeats 1000000 in
theorem over_back (r : RecV) (h : RecOkT r) (rest : List Int) : overF tk ⟨false, recBy r ++ rest⟩ rec0 = (r, ⟨false, rest⟩) := by
  obtain ⟨k, c, f, n, m⟩ := r
  have hc := h.c
  have hk := h.k
  obtain ⟨T, hT⟩ : ∃ T, T = (if k = 1 then cmdBy c else if k = 2 then encN f 1 ++ (encN n 8 ++ msgBy m) else encN f 1 ++ encN n 8) := ⟨_, rfl⟩
  have e0 : recBy ⟨k, c, f, n, m⟩ ++ rest = encN k 1 ++ (T ++ rest) := by
   rw [hT, ← List.append_assoc]; rfl
  have e1 : ov1 tk ⟨false, encN k 1 ++ (T ++ rest)⟩ rec0 = (k, ⟨false, T ++ rest⟩) := (fld_takes fit_u8 0).back k h.i.kind _
  have e2 : ov2 tk ⟨false, encN k 1 ++ (T ++ rest)⟩ rec0 = fld .u8 tk (ov1 tk ⟨false, encN k 1 ++ (T ++ rest)⟩ rec0).2 0 1 := rfl
  have e3 : ov3 tk ⟨false, encN k 1 ++ (T ++ rest)⟩ rec0 = num tk (ov2 tk ⟨false, encN k 1 ++ (T ++ rest)⟩ rec0).2 0 8 := rfl
  rw [e1] at e2
  rw [e0]
  unfold overF
  rw [e1]
  unfold cutV at hc
  by_cases k1 : k = 1
  ·
   subst k1
   rw [if_pos rfl] at hc hT
   subst hT
   injection hc with _ _ e3 e4 e5
   subst e3; subst e4; subst e5
   rw [if_pos rfl]
   have e6 : cmdF tk ⟨false, cmdBy c ++ rest⟩ rec0.cmd = (c, ⟨false, rest⟩) := cmd_takes.back c ⟨h.i.cmd, h.s⟩ rest
   rw [e6]; rfl
  ·
   rw [if_neg k1] at hc hT
   rw [if_neg k1]
   by_cases k2 : k = 2
   ·
    subst k2
    rw [if_pos rfl] at hc hT
    subst hT
    injection hc with _ e4 _ _ _
    subst e4
    rw [if_pos rfl]
    have e4 : fld .u8 tk ⟨false, encN f 1 ++ (encN n 8 ++ (msgBy m ++ rest))⟩ 0 1 = (f, ⟨false, encN n 8 ++ (msgBy m ++ rest)⟩) := (fld_takes fit_u8 0).back f h.i.frm _
    have e5 : num tk ⟨false, encN n 8 ++ (msgBy m ++ rest)⟩ 0 8 = (n, ⟨false, msgBy m ++ rest⟩) := (u64_takes 0).back n h.i.number _
    have e6 : msgF tk ⟨false, msgBy m ++ rest⟩ rec0.msg = (m, ⟨false, rest⟩) := msg_takes.back m h.i.msg rest
    simp only [List.append_assoc] at e2 e3 ⊢
    rw [e4] at e2
    rw [e2, e5] at e3
    rw [e2, e3, e6]; rfl
   ·
    have k3 : k = 3 := by have : 1 ≤ k ∧ k ≤ 3 := hk; omega
    subst k3
    rw [if_neg k2] at hc hT
    subst hT
    injection hc with _ e4 _ _ e5
    subst e4; subst e5
    rw [if_neg k2, if_pos rfl]
    have e4 : fld .u8 tk ⟨false, encN f 1 ++ (encN n 8 ++ rest)⟩ 0 1 = (f, ⟨false, encN n 8 ++ rest⟩) := (fld_takes fit_u8 0).back f h.i.frm _
    have e5 : num tk ⟨false, encN n 8 ++ rest⟩ 0 8 = (n, ⟨false, rest⟩) := (u64_takes 0).back n h.i.number _
    simp only [List.append_assoc] at e2 e3 ⊢
    rw [e4] at e2
    rw [e2, e5] at e3
    rw [e2, e3]; rfl
theorem over_tk (σ : WS) : overF tk σ rec0 = (if (ov1 tk σ rec0).1 = 1 then (⟨(ov1 tk σ rec0).1, (cmdF tk (ov1 tk σ rec0).2 cmd0).1, 0, 0, msg0⟩, (cmdF tk (ov1 tk σ rec0).2 cmd0).2)
   else if (ov1 tk σ rec0).1 = 2 then (⟨(ov1 tk σ rec0).1, cmd0, (ov2 tk σ rec0).1, (ov3 tk σ rec0).1, (msgF tk (ov3 tk σ rec0).2 msg0).1⟩, (msgF tk (ov3 tk σ rec0).2 msg0).2)
   else if (ov1 tk σ rec0).1 = 3 then (⟨(ov1 tk σ rec0).1, cmd0, (ov2 tk σ rec0).1, (ov3 tk σ rec0).1, msg0⟩, (ov3 tk σ rec0).2)
   else (⟨(ov1 tk σ rec0).1, cmd0, 0, 0, msg0⟩, ⟨true, (ov1 tk σ rec0).2.bs⟩)) := rfl
set_option maxHeartbeats 1000000 in
theorem over_fwd (σ : WS) (h1 : σ.bad = false) (h2 : By σ.bs) (h3 : (overF tk σ rec0).2.bad = false) : RecOkT (overF tk σ rec0).1 ∧ σ.bs = recBy (overF tk σ rec0).1 ++ (overF tk σ rec0).2.bs := by
  have T1 := (fld_takes fit_u8 0).fwd σ h1 h2
  have B2 := (fld_takes fit_u8 0).bad (ov1 tk σ rec0).2
  have T2 := (fld_takes fit_u8 0).fwd (ov1 tk σ rec0).2
  have B3 := (u64_takes 0).bad (ov2 tk σ rec0).2
  have T3 := (u64_takes 0).fwd (ov2 tk σ rec0).2
  change (ov1 tk σ rec0).2.bad = false → In .u8 (ov1 tk σ rec0).1 ∧ σ.bs = encN (ov1 tk σ rec0).1 1 ++ (ov1 tk σ rec0).2.bs at T1
  change (ov1 tk σ rec0).2.bad = true → (ov2 tk σ rec0).2.bad = true at B2
  change (ov1 tk σ rec0).2.bad = false → By (ov1 tk σ rec0).2.bs → (ov2 tk σ rec0).2.bad = false → In .u8 (ov2 tk σ rec0).1 ∧ (ov1 tk σ rec0).2.bs = encN (ov2 tk σ rec0).1 1 ++ (ov2 tk σ rec0).2.bs at T2
  change (ov2 tk σ rec0).2.bad = true → (ov3 tk σ rec0).2.bad = true at B3
  change (ov2 tk σ rec0).2.bad = false → By (ov2 tk σ rec0).2.bs → (ov3 tk σ rec0).2.bad = false → In .u64 (ov3 tk σ rec0).1 ∧ (ov2 tk σ rec0).2.bs = encN (ov3 tk σ rec0).1 8 ++ (ov3 tk σ rec0).2.bs at T3
  have CF := cmd_takes.fwd (ov1 tk σ rec0).2
  have CB := cmd_takes.bad (ov1 tk σ rec0).2
  have MF := msg_takes.fwd (ov3 tk σ rec0).2
  have MB := msg_takes.bad (ov3 tk σ rec0).2
  have hov := over_tk σ
  rw [hov] at h3 ⊢
  clear hov
  generalize cmdF tk (ov1 tk σ rec0).2 cmd0 = qc at *
  generalize msgF tk (ov3 tk σ rec0).2 msg0 = qm at *
  generalize ov3 tk σ rec0 = o3 at *
  generalize ov2 tk σ rec0 = o2 at *
  generalize ov1 tk σ rec0 = o1 at *
  have nb : ∀ {a b : Bool}, (a = true → b = true) → b = false → a = false := fun {a b} h hb => by
   cases a with
   | false => rfl
   | true => rw [h rfl] at hb; cases hb
  by_cases k1 : o1.1 = 1
  ·
   rw [if_pos k1] at h3 ⊢
   have h3 : qc.2.bad = false := h3
   have b1 := nb CB h3
   obtain ⟨p1, q1⟩ := T1 b1
   obtain ⟨p2, q2⟩ := CF b1 (by rw [q1] at h2; exact h2.rest) h3
   refine ⟨⟨⟨p1, p2.i, (show In .u8 0 from ⟨by decide, by decide⟩), (show In .u64 0 from ⟨by decide, by decide⟩), msgIn0⟩, p2.s, ⟨by show 1 ≤ o1.1; omega, by show o1.1 ≤ 3; omega⟩, if_pos k1⟩, ?_⟩
   show σ.bs = (encN o1.1 1 ++ (if o1.1 = 1 then cmdBy qc.1 else _)) ++ qc.2.bs
   rw [if_pos k1, List.append_assoc, ← q2]; exact q1
  ·
   rw [if_neg k1] at h3 ⊢
   by_cases k2 : o1.1 = 2
   ·
    rw [if_pos k2] at h3 ⊢
    have h3 : qm.2.bad = false := h3
    have b3 := nb MB h3
    have b2 := nb B3 b3
    have b1 := nb B2 b2
    obtain ⟨p1, q1⟩ := T1 b1
    have y1 : By o1.2.bs := by rw [q1] at h2; exact h2.rest
    obtain ⟨p2, q2⟩ := T2 b1 y1 b2
    have y2 : By o2.2.bs := by rw [q2] at y1; exact y1.rest
    obtain ⟨p3, q3⟩ := T3 b2 y2 b3
    obtain ⟨p4, q4⟩ := MF b3 (by rw [q3] at y2; exact y2.rest) h3
    refine ⟨⟨⟨p1, cmdIn0, p2, p3, p4⟩, short0, ⟨by show 1 ≤ o1.1; omega, by show o1.1 ≤ 3; omega⟩, (if_neg k1).trans (if_pos k2)⟩, ?_⟩
    show σ.bs = (encN o1.1 1 ++ (if o1.1 = 1 then _ else if o1.1 = 2 then encN o2.1 1 ++ (encN o3.1 8 ++ msgBy qm.1) else _)) ++ qm.2.bs
    rw [if_neg k1, if_pos k2]
    simp only [List.append_assoc]
    rw [← q4, ← q3, ← q2]; exact q1
   ·
    rw [if_neg k2] at h3 ⊢
    by_cases k3 : o1.1 = 3
    ·
     rw [if_pos k3] at h3 ⊢
     have b3 : o3.2.bad = false := h3
     have b2 := nb B3 b3
     have b1 := nb B2 b2
     obtain ⟨p1, q1⟩ := T1 b1
     have y1 : By o1.2.bs := by rw [q1] at h2; exact h2.rest
     obtain ⟨p2, q2⟩ := T2 b1 y1 b2
     have y2 : By o2.2.bs := by rw [q2] at y1; exact y1.rest
     obtain ⟨p3, q3⟩ := T3 b2 y2 b3
     refine ⟨⟨⟨p1, cmdIn0, p2, p3, msgIn0⟩, short0, ⟨by show 1 ≤ o1.1; omega, by show o1.1 ≤ 3; omega⟩, (if_neg k1).trans (if_neg k2)⟩, ?_⟩
     show σ.bs = (encN o1.1 1 ++ (if o1.1 = 1 then _ else if o1.1 = 2 then _ else encN o2.1 1 ++ encN o3.1 8)) ++ o3.2.bs
     rw [if_neg k1, if_neg k2]
     simp only [List.append_assoc]
     rw [← q3, ← q2]; exact q1
    · rw [if_neg k3] at h3; cases h3
theorem over_bad (σ : WS) (hb : σ.bad = true) : (overF tk σ rec0).2.bad = true := by
  have c1 : (ov1 tk σ rec0).2.bad = true := (fld_takes fit_u8 0).bad σ hb
  have c2 : (ov2 tk σ rec0).2.bad = true := (fld_takes fit_u8 0).bad _ c1
  have c3 : (ov3 tk σ rec0).2.bad = true := (u64_takes 0).bad _ c2
  have c4 := cmd_takes.bad _ c1
  have c5 := msg_takes.bad _ c3
  rw [over_tk]
  split
  · dsimp only; exact c4
  ·
   split
   · dsimp only; exact c5
   ·
    split
    · exact c3
    · rfl

theorem over_takes : Takes (overF tk) rec0 RecOkT recBy where
 back x hx rest := over_back x hx rest
 fwd σ h1 h2 h3 := over_fwd σ h1 h2 h3
 bad σ hb := over_bad σ hb
/-! ### the laws in plain words -/
theorem get_bad {bs : List Int} (h : getE bs ≠ 0) : getE bs = 140 ∧ getR bs = rec0 := by
 unfold getE at h ⊢
 unfold getR
 split at h
 · rename_i hb; exact ⟨if_pos hb, if_pos hb⟩
 · exact absurd rfl h
theorem put_of_get {bs : List Int} (hb : By bs) (h : getE bs = 0) : RecOkT (getR bs) ∧ putE (getR bs) = 0 ∧ putB (getR bs) = bs := by
 have nb : ¬ badT bs := by
  intro hx
  unfold getE at h; rw [if_pos hx] at h; cases h
 have b1 : (ovT bs).2.bad = false := by
  cases hq : (ovT bs).2.bad with
  | false => rfl
  | true => exact absurd (.inl hq) nb
 have b2 : (ovT bs).2.bs = [] := List.length_eq_zero_iff.1 (by
  rcases Nat.eq_zero_or_pos (ovT bs).2.bs.length with h | h
  · exact h
  · exact absurd (.inr (by omega)) nb)
 obtain ⟨k1, k2⟩ := over_takes.fwd ⟨false, bs⟩ rfl hb b1
 have k1 : RecOkT (ovT bs).1 := k1
 have k2 : bs = recBy (ovT bs).1 ++ (ovT bs).2.bs := k2
 have e : getR bs = (ovT bs).1 := if_neg nb
 rw [e]
 have nl : ¬ longV (ovT bs).1 := by
  rintro (h | h | h | h)
  · have := k1.s.name; omega
  · have := k1.s.legs; omega
  · have := k1.s.taxes; omega
  ·
   obtain ⟨t, ht, hl⟩ := List.any_eq_true.1 h
   have h2 := k1.s.codes t ht
   unfold longT at hl
   have := of_decide_eq_true hl
   omega
 have pe : putE (ovT bs).1 = 0 := by
  unfold putE
  rw [if_neg, if_neg nl]
  rintro (h | h | h)
  · have := k1.k; omega
  · have := k1.k; omega
  · rw [k1.c, (sameV_iff _ _).2 rfl] at h; cases h
 refine ⟨k1, pe, ?_⟩
 rw [putB_eq pe k1.i]
 rw [b2, List.append_nil] at k2
 exact k2.symm
end Go.Proofs.Ytfcjmpgbohgoeaa
end
