/- CODEC: the document's writer, by running: what may be, the whole. -/
import Derived.Test.YtfcjmpgbohgoeaaCp3
namespace Go.Proofs.Ytfcjmpgbohgoeaa
open Go.RowKit Go.Lib Go.Tk Go.Shelf Go.Vc Go.Sx
set_option linter.unusedVariables false
set_option linter.unusedSimpArgs false
theorem emptyB_iff (c : CmdV) : emptyB c = true ↔ c = cmd0 := by
  obtain ⟨k, t, a, nm, ls, f, ts, p, am⟩ := c
  have en : (nm.toList == (ByteArray.mk #[]).toList) = decide (nm = ByteArray.empty) := by rw [← beq_toListBytes, ba_beq]; rfl
  simp only [emptyB, en, Bool.and_eq_true, decide_eq_true_eq, tickB_iff, cmd0, CmdV.mk.injEq]
  constructor
  · rintro ⟨h1, h2, h3, h4, h5, h6, h7, h8, h9⟩
    exact ⟨h1, h2, h3, h5, List.length_eq_zero_iff.1 (by omega), h7, List.length_eq_zero_iff.1 (by omega), h9, h4⟩
  · rintro ⟨h1, h2, h3, h5, rfl, h7, rfl, h9, h4⟩
    exact ⟨h1, h2, h3, h4, h5, rfl, h7, rfl, h9⟩
def MYF : Nat := 18
def mayB (r : RecV) : Bool := if r.kind = 1 then decide (r.frm = 0) && (decide (r.number = 0) && msgB r.msg msg0) else if r.kind = 2 then emptyB r.cmd else if r.kind = 3 then emptyB r.cmd && msgB r.msg msg0 else false
theorem mayB_iff (r : RecV) : mayB r = true ↔ ¬ (r.kind < 1 ∨ r.kind > 3 ∨ sameV r (cutV r) = false) := by
  rw [show (sameV r (cutV r) = false) ↔ ¬ r = cutV r from by rw [← sameV_iff, Bool.not_eq_true]]
  obtain ⟨k, c, f, n, m⟩ := r
  unfold mayB cutV
  simp only
  by_cases h1 : k = 1
  · subst h1
    simp [msgB_iff]
  · by_cases h2 : k = 2
    · subst h2
      simp [emptyB_iff]
    · by_cases h3 : k = 3
      · subst h3
        simp [emptyB_iff, msgB_iff]
      · simp [h1, h2, h3]; omega
theorem may_w (r : RecV) (al at1 : Option Addr) (cl ct : Nat) :
    CallOK Try.prog MYF [.agg (recS r (.val (.slice al r.cmd.legs.length cl)) (.val (.slice at1 r.cmd.taxes.length ct)))] [] [] (.val (.bool (mayB r))) [] := by
  have hm1 := fun (b : Bool) (h : msgB r.msg msg0 = b) => eq_agg (P := Try.prog) (o := opOf Try.prog MYF 3 12) (x := .tmp 17) (y := .tmp 18) (t := 42) (t' := 42) (cs := msgS r.msg) (ds := msgS msg0) (b := b) (by kernel_rfl) (by kernel_rfl) (fun _ => rfl) (fun _ => rfl) (fun w => (eq_msg r.msg msg0 w).trans (by rw [h]))
  have hm2 := fun (b : Bool) (h : msgB r.msg msg0 = b) => eq_agg (P := Try.prog) (o := opOf Try.prog MYF 7 7) (x := .tmp 33) (y := .tmp 34) (t := 42) (t' := 42) (cs := msgS r.msg) (ds := msgS msg0) (b := b) (by kernel_rfl) (by kernel_rfl) (fun _ => rfl) (fun _ => rfl) (fun w => (eq_msg r.msg msg0 w).trans (by rw [h]))
  have he := empty_w r.cmd al at1 cl ct
  unfold mayB
  refine callOK_intro (by kernel_rfl) fun eb R => ?_
  by_cases k1 : r.kind = 1
  · rw [if_pos k1]
    rcases Bool.eq_false_or_eq_true (decide (r.frm = 0)) with h1 | h1
    · rcases Bool.eq_false_or_eq_true (decide (r.number = 0)) with h2 | h2
      · rw [h1, h2]
        exact leaf_end calNone false 200 [hB 2 0 (decide (r.kind = 1)) true (decide_eq_true k1), hB 3 2 (decide (r.frm = 0)) true h1, hB 3 6 (decide (r.number = 0)) true h2, hO 3 12 (hm1 _ rfl)] calNone_ok (by kernel_rfl)
      · rw [h1, h2]
        exact leaf_end calNone false 200 [hB 2 0 (decide (r.kind = 1)) true (decide_eq_true k1), hB 3 2 (decide (r.frm = 0)) true h1, hB 3 6 (decide (r.number = 0)) false h2] calNone_ok (by kernel_rfl)
    · rw [h1]
      exact leaf_end calNone false 200 [hB 2 0 (decide (r.kind = 1)) true (decide_eq_true k1), hB 3 2 (decide (r.frm = 0)) false h1] calNone_ok (by kernel_rfl)
  rw [if_neg k1]
  by_cases k2 : r.kind = 2
  · rw [if_pos k2]
    exact leaf_end calNone false 200 [hB 2 0 (decide (r.kind = 1)) false (decide_eq_false k1), hB 4 0 (decide (r.kind = 2)) true (decide_eq_true k2), hC 5 2 he] calNone_ok (by kernel_rfl)
  rw [if_neg k2]
  by_cases k3 : r.kind = 3
  · rw [if_pos k3]
    rcases Bool.eq_false_or_eq_true (emptyB r.cmd) with h1 | h1
    · rw [h1] at he ⊢
      exact leaf_end calNone false 200 [hB 2 0 (decide (r.kind = 1)) false (decide_eq_false k1), hB 4 0 (decide (r.kind = 2)) false (decide_eq_false k2), hB 6 0 (decide (r.kind = 3)) true (decide_eq_true k3), hC 7 2 he, hO 7 7 (hm2 _ rfl)] calNone_ok (by kernel_rfl)
    · rw [h1] at he ⊢
      exact leaf_end calNone false 200 [hB 2 0 (decide (r.kind = 1)) false (decide_eq_false k1), hB 4 0 (decide (r.kind = 2)) false (decide_eq_false k2), hB 6 0 (decide (r.kind = 3)) true (decide_eq_true k3), hC 7 2 he] calNone_ok (by kernel_rfl)
  · rw [if_neg k3]
    exact leaf_end calNone false 200 [hB 2 0 (decide (r.kind = 1)) false (decide_eq_false k1), hB 4 0 (decide (r.kind = 2)) false (decide_eq_false k2), hB 6 0 (decide (r.kind = 3)) false (decide_eq_false k3)] calNone_ok (by kernel_rfl)
def PTF : Nat := 13
theorem cmd_bytes {c : CmdV} (h : CmdIn c) : wT (B1 c) c.taxes c.taxes.length ++ cB (encN c.penalty 8) = cB (cmdBy c) := by
  rw [wT_take _ _ _ (Nat.le_refl _), List.take_length]
  unfold B1
  rw [wL_take _ _ _ (Nat.le_refl _), List.take_length]
  unfold B0 cmdBy legsBy taxesBy
  simp only [← cB_app, enc1 h.kind, enc1 h.at_, lenB, List.append_assoc]
theorem cB_len (l : List Int) : (cB l).length = l.length := List.length_map _
theorem wL_len (b : List Value) (l : List LegV) : ∀ i, (wL b l i).length = wLn b.length i
  | 0 => rfl
  | i + 1 => by
    show (wL b l i ++ cB (legBy (lAt l i))).length = wLn b.length i + 7
    rw [List.length_append, wL_len b l i, cB_len]
    simp [legBy, encN_len]
theorem wT_len (b : List Value) (l : List TaxV) : ∀ i, (wT b l i).length = wTn b.length l i
  | 0 => rfl
  | i + 1 => by
    show ((wT b l i ++ cB (textBy (tAt l i).code)) ++ cB (encN (tAt l i).amt 8)).length = wTn b.length l i + (1 + (tAt l i).code.size) + 8
    rw [List.length_append, List.length_append, wT_len b l i, cB_len, cB_len, encN_len]
    unfold textBy lenBy
    rw [List.length_append, be_len, ← cB_len (bytesOf _), bytes_cB, byteCells_length]
theorem B0_len (c : CmdV) : (B0 c).length = n0 c := by
  unfold B0 n0
  simp only [List.length_append, cB_len, tickBy, textBy, lenBy, encN_len, be_len, List.length_cons, List.length_nil]
  rw [← cB_len (bytesOf _), bytes_cB, byteCells_length]
theorem B1_len (c : CmdV) : (B1 c).length = n1 c := by
  unfold B1 n1
  rw [List.length_append, List.length_append, wL_len, B0_len, cB_len, encN_len]; rfl
theorem put_w (r : RecV) (al at1 : Option Addr) (cl ct : Nat) (D : Chunk) (rl : Rd D al (cellsL legE r.cmd.legs)) (rt : Rd D at1 (cellsL taxE r.cmd.taxes)) (h : RecIn r) (hm : r.cmd.taxes.length ≤ 1000000) :
    CallOK Try.prog PTF [.agg (recS r (.val (.slice al r.cmd.legs.length cl)) (.val (.slice at1 r.cmd.taxes.length ct)))] [((0, 0), .fam fun _ _ => D)] [] (.tup [.raw 1 0, .val (.int .i64 (putE r))]) [((1, 0), u8R (cB (putB r)) (putB r).length)] := by
  have h1 := may_w r al at1 cl ct
  have h2 := long_w r al at1 cl ct D rt hm
  have hk := h.kind
  simp only [In] at hk
  rcases Bool.eq_false_or_eq_true (mayB r) with hm1 | hm1
  rotate_left
  · have e1 : putE r = 140 := if_pos (Classical.byContradiction fun hn => by rw [(mayB_iff r).2 hn] at hm1; cases hm1)
    have e2 : putB r = [] := if_neg (by rw [e1]; decide)
    rw [hm1] at h1
    rw [e1, e2]
    refine callOK_intro (by kernel_rfl) fun eb R => ?_
    exact leaf_end calNone false 200 [hC 1 1 h1] calNone_ok (by kernel_rfl)
  have hno := (mayB_iff r).1 hm1
  rw [hm1] at h1
  by_cases hl : longV r
  · have e1 : putE r = 2 := (if_neg hno).trans (if_pos hl)
    have e2 : putB r = [] := if_neg (by rw [e1]; decide)
    rw [decide_eq_true hl] at h2
    rw [e1, e2]
    refine callOK_intro (by kernel_rfl) fun eb R => ?_
    exact leaf_end calNone false 200 [hC 1 1 h1, hC 3 1 h2] calNone_ok (by kernel_rfl)
  have e1 : putE r = 0 := (if_neg hno).trans (if_neg hl)
  rw [decide_eq_false hl] at h2
  have eb : putB r = recBy r := putB_eq e1 h
  have hnum := numb_ok r.number h.number 8 (by omega)
  have henc : encN r.number 8 = be r.number 8 := by unfold encN; rw [wr_u64 h.number]
  rw [eb, e1]
  by_cases k1 : r.kind = 1
  · have hsh : Short r.cmd := short_of hl
    have hc := cmd_w r.cmd al at1 cl ct D rl rt h.cmd hsh
    have eB : cB (recBy r) = [.int .u8 r.kind] ++ (wT (B1 r.cmd) r.cmd.taxes r.cmd.taxes.length ++ cB (encN r.cmd.penalty 8)) := by
      rw [cmd_bytes h.cmd]; unfold recBy; rw [if_pos k1, ← cB_app, enc1 hk]
    have eL : (recBy r).length = 1 + (wTn (n1 r.cmd) r.cmd.taxes r.cmd.taxes.length + 8) := by
      rw [← cB_len, eB, List.length_append, List.length_append, wT_len, B1_len, cB_len, encN_len]; rfl
    have hle : 1 + (wTn (n1 r.cmd) r.cmd.taxes r.cmd.taxes.length + 8) ≤ 1073741824 := by
      have hb := wTn_le (n1 r.cmd) r.cmd.taxes hsh.codes r.cmd.taxes.length
      have ht := hsh.taxes
      have hq := hsh.legs
      have hn := hsh.name
      have hb1 : n1 r.cmd ≤ 2000 := by unfold n1; rw [wLn_eq]; unfold n0; omega
      omega
    rw [eB, eL]
    refine callOK_intro (by kernel_rfl) fun eb R => ?_
    exact leaf_end calNone false 200 [hC 1 1 h1, hC 3 1 h2, hB 6 2 (decide (r.kind = 1)) true (decide_eq_true k1), hC 7 3 hc, .opt 7 4 (.app _ hle (wT (B1 r.cmd) r.cmd.taxes r.cmd.taxes.length ++ cB (encN r.cmd.penalty 8)) (by rw [cmd_bytes h.cmd]; exact cB_one _))] calNone_ok (by kernel_rfl)
  by_cases k2 : r.kind = 2
  · have eB : cB (recBy r) = (([.int .u8 r.kind] ++ [.int .u8 r.frm]) ++ cB (be r.number 8)) ++ cB (msgBy r.msg) := by
      unfold recBy; rw [if_neg k1, if_pos k2, ← cB_app, ← cB_app, ← cB_app, enc1 hk, enc1 h.frm, henc]; simp only [List.append_assoc]
    have eL : (recBy r).length = 57 := by rw [← cB_len, eB]; simp [cB_len, be_len, msgBy, tickBy, legBy, encN_len]
    rw [eB, eL]
    refine callOK_intro (by kernel_rfl) fun eb R => ?_
    exact leaf_end calNone false 200 [hC 1 1 h1, hC 3 1 h2, hB 6 2 (decide (r.kind = 1)) false (decide_eq_false k1), hC 9 3 hnum, .opt 9 4 (.app 10 (by decide) (cB (be r.number 8)) (cB_one _)), hB 10 2 (decide (r.kind = 2)) true (decide_eq_true k2), hC 11 3 (msg_w r.msg h.msg), .opt 11 4 (.app 57 (by decide) (cB (msgBy r.msg)) (cB_one _))] calNone_ok (by kernel_rfl)
  · have eB : cB (recBy r) = ([.int .u8 r.kind] ++ [.int .u8 r.frm]) ++ cB (be r.number 8) := by
      unfold recBy; rw [if_neg k1, if_neg k2, ← cB_app, ← cB_app, enc1 hk, enc1 h.frm, henc]; simp only [List.append_assoc]
    have eL : (recBy r).length = 10 := by rw [← cB_len, eB]; simp [cB_len, be_len]
    rw [eB, eL]
    refine callOK_intro (by kernel_rfl) fun eb R => ?_
    exact leaf_end calNone false 200 [hC 1 1 h1, hC 3 1 h2, hB 6 2 (decide (r.kind = 1)) false (decide_eq_false k1), hC 9 3 hnum, .opt 9 4 (.app 10 (by decide) (cB (be r.number 8)) (cB_one _)), hB 10 2 (decide (r.kind = 2)) false (decide_eq_false k2)] calNone_ok (by kernel_rfl)
end Go.Proofs.Ytfcjmpgbohgoeaa
