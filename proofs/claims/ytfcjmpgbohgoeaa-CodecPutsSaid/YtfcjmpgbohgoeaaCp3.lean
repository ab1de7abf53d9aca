/- CODEC: the document's writer, by running: what is too long, what may be, the whole. -/
import Derived.Test.YtfcjmpgbohgoeaaCp2
import Derived.Test.YtfcjmpgbohgoeaaCo12
namespace Go.Proofs.Ytfcjmpgbohgoeaa
open Go.RowKit Go.Lib Go.Tk Go.Shelf Go.Vc Go.Sx
set_option linter.unusedVariables false
set_option linter.unusedSimpArgs false
def EMF : Nat := 36
def emptyB (c : CmdV) : Bool := decide (c.kind = 0) && (tickB c.tick ⟨0, 0⟩ && (decide (c.at_ = 0) && (decide (c.amount = 0) && ((c.name.toList == (ByteArray.mk #[]).toList) && (decide ((c.legs.length : Int) = 0) && (decide (c.fare = 0) && (decide ((c.taxes.length : Int) = 0) && decide (c.penalty = 0))))))))
theorem EM_of {c : CmdV} {v1 v2 : Value} {b : Bool} (h : emptyB c = b) (hc : CallOK Try.prog EMF [.agg (cmdS c (.val v1) (.val v2))] [] [] (.val (.bool b)) []) : CallOK Try.prog EMF [.agg (cmdS c (.val v1) (.val v2))] [] [] (.val (.bool (emptyB c))) [] := h ▸ hc
theorem empty_w (c : CmdV) (al at1 : Option Addr) (cl ct : Nat) : CallOK Try.prog EMF [.agg (cmdS c (.val (.slice al c.legs.length cl)) (.val (.slice at1 c.taxes.length ct)))] [] [] (.val (.bool (emptyB c))) [] := by
  cases h1 : decide (c.kind = 0) with
  | false => refine EM_of (show emptyB c = false by unfold emptyB; rw [h1]; rfl) (callOK_intro (by kernel_rfl) fun eb R => leaf_end calNone false 200 [hB 2 2 (decide (c.kind = 0)) false h1] calNone_ok (by kernel_rfl))
  | true =>
   cases h2 : tickB c.tick ⟨0, 0⟩ with
   | false => refine EM_of (show emptyB c = false by unfold emptyB; rw [h1, h2]; rfl) (callOK_intro (by kernel_rfl) fun eb R => leaf_end calNone false 200 [hB 2 2 (decide (c.kind = 0)) true h1, hO 2 7 (eq_agg (P := Try.prog) (o := opOf Try.prog EMF 2 7) (x := .tmp 11) (y := .tmp 12) (t := 24) (t' := 24) (cs := tickS c.tick) (ds := tickS ⟨0, 0⟩) (b := false) (by kernel_rfl) (by kernel_rfl) (fun _ => rfl) (fun _ => rfl) (fun w => (eq_tick c.tick ⟨0, 0⟩ w).trans (by rw [h2])))] calNone_ok (by kernel_rfl))
   | true =>
    cases h3 : decide (c.at_ = 0) with
    | false => refine EM_of (show emptyB c = false by unfold emptyB; rw [h1, h2, h3]; rfl) (callOK_intro (by kernel_rfl) fun eb R => leaf_end calNone false 200 [hB 2 2 (decide (c.kind = 0)) true h1, hO 2 7 (eq_agg (P := Try.prog) (o := opOf Try.prog EMF 2 7) (x := .tmp 11) (y := .tmp 12) (t := 24) (t' := 24) (cs := tickS c.tick) (ds := tickS ⟨0, 0⟩) (b := true) (by kernel_rfl) (by kernel_rfl) (fun _ => rfl) (fun _ => rfl) (fun w => (eq_tick c.tick ⟨0, 0⟩ w).trans (by rw [h2]))), hB 2 12 (decide (c.at_ = 0)) false h3] calNone_ok (by kernel_rfl))
    | true =>
     cases h4 : decide (c.amount = 0) with
     | false => refine EM_of (show emptyB c = false by unfold emptyB; rw [h1, h2, h3, h4]; rfl) (callOK_intro (by kernel_rfl) fun eb R => leaf_end calNone false 200 [hB 2 2 (decide (c.kind = 0)) true h1, hO 2 7 (eq_agg (P := Try.prog) (o := opOf Try.prog EMF 2 7) (x := .tmp 11) (y := .tmp 12) (t := 24) (t' := 24) (cs := tickS c.tick) (ds := tickS ⟨0, 0⟩) (b := true) (by kernel_rfl) (by kernel_rfl) (fun _ => rfl) (fun _ => rfl) (fun w => (eq_tick c.tick ⟨0, 0⟩ w).trans (by rw [h2]))), hB 2 12 (decide (c.at_ = 0)) true h3, hB 2 17 (decide (c.amount = 0)) false h4] calNone_ok (by kernel_rfl))
     | true =>
      cases h5 : c.name.toList == (ByteArray.mk #[]).toList with
      | false => refine EM_of (show emptyB c = false by unfold emptyB; rw [h1, h2, h3, h4, h5]; rfl) (callOK_intro (by kernel_rfl) fun eb R => leaf_end calNone false 200 [hB 2 2 (decide (c.kind = 0)) true h1, hO 2 7 (eq_agg (P := Try.prog) (o := opOf Try.prog EMF 2 7) (x := .tmp 11) (y := .tmp 12) (t := 24) (t' := 24) (cs := tickS c.tick) (ds := tickS ⟨0, 0⟩) (b := true) (by kernel_rfl) (by kernel_rfl) (fun _ => rfl) (fun _ => rfl) (fun w => (eq_tick c.tick ⟨0, 0⟩ w).trans (by rw [h2]))), hB 2 12 (decide (c.at_ = 0)) true h3, hB 2 17 (decide (c.amount = 0)) true h4, hB 2 22 (c.name.toList == (ByteArray.mk #[]).toList) false h5] calNone_ok (by kernel_rfl))
      | true =>
       cases h6 : decide ((c.legs.length : Int) = 0) with
       | false => refine EM_of (show emptyB c = false by unfold emptyB; rw [h1, h2, h3, h4, h5, h6]; rfl) (callOK_intro (by kernel_rfl) fun eb R => leaf_end calNone false 200 [hB 2 2 (decide (c.kind = 0)) true h1, hO 2 7 (eq_agg (P := Try.prog) (o := opOf Try.prog EMF 2 7) (x := .tmp 11) (y := .tmp 12) (t := 24) (t' := 24) (cs := tickS c.tick) (ds := tickS ⟨0, 0⟩) (b := true) (by kernel_rfl) (by kernel_rfl) (fun _ => rfl) (fun _ => rfl) (fun w => (eq_tick c.tick ⟨0, 0⟩ w).trans (by rw [h2]))), hB 2 12 (decide (c.at_ = 0)) true h3, hB 2 17 (decide (c.amount = 0)) true h4, hB 2 22 (c.name.toList == (ByteArray.mk #[]).toList) true h5, hB 2 28 (decide ((c.legs.length : Int) = 0)) false h6] calNone_ok (by kernel_rfl))
       | true =>
        cases h7 : decide (c.fare = 0) with
        | false => refine EM_of (show emptyB c = false by unfold emptyB; rw [h1, h2, h3, h4, h5, h6, h7]; rfl) (callOK_intro (by kernel_rfl) fun eb R => leaf_end calNone false 200 [hB 2 2 (decide (c.kind = 0)) true h1, hO 2 7 (eq_agg (P := Try.prog) (o := opOf Try.prog EMF 2 7) (x := .tmp 11) (y := .tmp 12) (t := 24) (t' := 24) (cs := tickS c.tick) (ds := tickS ⟨0, 0⟩) (b := true) (by kernel_rfl) (by kernel_rfl) (fun _ => rfl) (fun _ => rfl) (fun w => (eq_tick c.tick ⟨0, 0⟩ w).trans (by rw [h2]))), hB 2 12 (decide (c.at_ = 0)) true h3, hB 2 17 (decide (c.amount = 0)) true h4, hB 2 22 (c.name.toList == (ByteArray.mk #[]).toList) true h5, hB 2 28 (decide ((c.legs.length : Int) = 0)) true h6, hB 2 33 (decide (c.fare = 0)) false h7] calNone_ok (by kernel_rfl))
        | true =>
         cases h8 : decide ((c.taxes.length : Int) = 0) with
         | false => refine EM_of (show emptyB c = false by unfold emptyB; rw [h1, h2, h3, h4, h5, h6, h7, h8]; rfl) (callOK_intro (by kernel_rfl) fun eb R => leaf_end calNone false 200 [hB 2 2 (decide (c.kind = 0)) true h1, hO 2 7 (eq_agg (P := Try.prog) (o := opOf Try.prog EMF 2 7) (x := .tmp 11) (y := .tmp 12) (t := 24) (t' := 24) (cs := tickS c.tick) (ds := tickS ⟨0, 0⟩) (b := true) (by kernel_rfl) (by kernel_rfl) (fun _ => rfl) (fun _ => rfl) (fun w => (eq_tick c.tick ⟨0, 0⟩ w).trans (by rw [h2]))), hB 2 12 (decide (c.at_ = 0)) true h3, hB 2 17 (decide (c.amount = 0)) true h4, hB 2 22 (c.name.toList == (ByteArray.mk #[]).toList) true h5, hB 2 28 (decide ((c.legs.length : Int) = 0)) true h6, hB 2 33 (decide (c.fare = 0)) true h7, hB 2 39 (decide ((c.taxes.length : Int) = 0)) false h8] calNone_ok (by kernel_rfl))
         | true =>
          cases h9 : decide (c.penalty = 0) with
          | false => refine EM_of (show emptyB c = false by unfold emptyB; rw [h1, h2, h3, h4, h5, h6, h7, h8, h9]; rfl) (callOK_intro (by kernel_rfl) fun eb R => leaf_end calNone false 200 [hB 2 2 (decide (c.kind = 0)) true h1, hO 2 7 (eq_agg (P := Try.prog) (o := opOf Try.prog EMF 2 7) (x := .tmp 11) (y := .tmp 12) (t := 24) (t' := 24) (cs := tickS c.tick) (ds := tickS ⟨0, 0⟩) (b := true) (by kernel_rfl) (by kernel_rfl) (fun _ => rfl) (fun _ => rfl) (fun w => (eq_tick c.tick ⟨0, 0⟩ w).trans (by rw [h2]))), hB 2 12 (decide (c.at_ = 0)) true h3, hB 2 17 (decide (c.amount = 0)) true h4, hB 2 22 (c.name.toList == (ByteArray.mk #[]).toList) true h5, hB 2 28 (decide ((c.legs.length : Int) = 0)) true h6, hB 2 33 (decide (c.fare = 0)) true h7, hB 2 39 (decide ((c.taxes.length : Int) = 0)) true h8, hB 2 44 (decide (c.penalty = 0)) false h9] calNone_ok (by kernel_rfl))
          | true =>
           refine EM_of (show emptyB c = true by unfold emptyB; rw [h1, h2, h3, h4, h5, h6, h7, h8, h9]; rfl) (callOK_intro (by kernel_rfl) fun eb R => leaf_end calNone false 200 [hB 2 2 (decide (c.kind = 0)) true h1, hO 2 7 (eq_agg (P := Try.prog) (o := opOf Try.prog EMF 2 7) (x := .tmp 11) (y := .tmp 12) (t := 24) (t' := 24) (cs := tickS c.tick) (ds := tickS ⟨0, 0⟩) (b := true) (by kernel_rfl) (by kernel_rfl) (fun _ => rfl) (fun _ => rfl) (fun w => (eq_tick c.tick ⟨0, 0⟩ w).trans (by rw [h2]))), hB 2 12 (decide (c.at_ = 0)) true h3, hB 2 17 (decide (c.amount = 0)) true h4, hB 2 22 (c.name.toList == (ByteArray.mk #[]).toList) true h5, hB 2 28 (decide ((c.legs.length : Int) = 0)) true h6, hB 2 33 (decide (c.fare = 0)) true h7, hB 2 39 (decide ((c.taxes.length : Int) = 0)) true h8, hB 2 44 (decide (c.penalty = 0)) true h9] calNone_ok (by kernel_rfl))
def LNF : Nat := 19
def lbB (c : CmdV) : Nat → Bool
  | 0 => decide ((c.name.size : Int) > 32) || (decide ((c.legs.length : Int) > 4) || decide ((c.taxes.length : Int) > 4))
  | i + 1 => lbB c i || decide (((tAt c.taxes i).code.size : Int) > 32)
theorem lbB_any (c : CmdV) : ∀ i ≤ c.taxes.length, lbB c i = (lbB c 0 || (c.taxes.take i).any longT)
  | 0, _ => by simp
  | i + 1, h => by
    have e1 : tAt c.taxes i = c.taxes[i] := by unfold tAt; rw [List.getD_eq_getElem?_getD, List.getElem?_eq_getElem h]; rfl
    show (lbB c i || decide (((tAt c.taxes i).code.size : Int) > 32)) = _
    rw [lbB_any c i (by omega), List.take_succ_eq_append_getElem (by omega), List.any_append, e1, Bool.or_assoc]
    simp [longT]
theorem lbB_long (r : RecV) : lbB r.cmd r.cmd.taxes.length = decide (longV r) := by
  rw [lbB_any _ _ (Nat.le_refl _), List.take_length, Bool.eq_iff_iff]
  simp only [Bool.or_eq_true, decide_eq_true_eq, lbB, longV, or_assoc]
theorem long_w (r : RecV) (al at1 : Option Addr) (cl ct : Nat) (D : Chunk) (rt : Rd D at1 (cellsL taxE r.cmd.taxes)) (hm : r.cmd.taxes.length ≤ 1000000) :
    CallOK Try.prog LNF [.agg (recS r (.val (.slice al r.cmd.legs.length cl)) (.val (.slice at1 r.cmd.taxes.length ct)))] [((0, 0), .fam fun _ _ => D)] [] (.val (.bool (decide (longV r)))) [] := by
  rw [← lbB_long]
  refine callOK_intro (by kernel_rfl) fun eb R => ?_
  have fin : Go Try.prog LNF (.val (.bool (lbB r.cmd r.cmd.taxes.length))) ([((0, 0), .fam fun _ _ => D)] ++ []) eb R .nrm (rgK Try.prog LNF 3 []) [(3, .ptr 1 0 0), (4, .val (.bool (lbB r.cmd 0)))] [((0, 0), .fam fun _ _ => D), ((1, 0), .box none (saleS r.cmd (.val (.slice al r.cmd.legs.length cl)) (.val (.slice at1 r.cmd.taxes.length ct))))] := by
    refine go_loop (X := { i : Nat // i ≤ r.cmd.taxes.length }) 0 [] (fun x => ([(3, .ptr 1 0 0), (4, .val (.bool (lbB r.cmd x.1))), (5, .val (.int .i64 (x.1 : Int)))], [((0, 0), .fam fun _ _ => D), ((1, 0), .box none (saleS r.cmd (.val (.slice al r.cmd.legs.length cl)) (.val (.slice at1 r.cmd.taxes.length ct))))]))
      (fun x => r.cmd.taxes.length - x.1) ⟨0, Nat.zero_le _⟩ calNone false 200 [] calNone_ok (by kernel_rfl) ?_
    rintro ⟨i, hi⟩ J hJ
    by_cases hl : i < r.cmd.taxes.length
    · have hx := tAt_get hl
      have ha := idx_open (P := Try.prog) (o := opOf Try.prog LNF 6 5) (x := .tmp 35) (y := .tmp 36) (t := 26) (e := 58) (size := 2) (ie := (Try.prog.info? 58).get (by kernel_rfl)) (k := .i64) (cap := ct) (by kernel_rfl) Try.underlying26 (Option.some_get _).symm (by kernel_rfl) (by decide) (cellsL_len (enc := taxE) (size := 2) (fun _ => rfl) r.cmd.taxes) rt hl
      have hv := load_open2 (P := Try.prog) (o := opOf Try.prog LNF 6 7) (x := .tmp 38) (t := 9) (k := i * 2) (j := 0) (cs := taxS (tAt r.cmd.taxes i)) (u := .val (.string (tAt r.cmd.taxes i).code)) (by kernel_rfl) (by kernel_rfl) rt (taxS_at hx) (by rw [cellsL_len (enc := taxE) (size := 2) (fun _ => rfl)]; omega)
      rcases Bool.eq_false_or_eq_true (lbB r.cmd i) with hb | hb
      · exact leaf_next calNone false 200 [hB 4 4 (decide ((i : Int) < (r.cmd.taxes.length : Int))) true (decide_eq_true (by omega)), hB 6 0 (lbB r.cmd i) true hb, hB 6 11 true (lbB r.cmd (i + 1)) (by unfold lbB; rw [hb]; rfl), hI 5 1 .i64 (IntKind.i64.wrap ((i : Int) + 1)) ((i + 1 : Nat) : Int) (by rw [wr_i64 (by omega)]; omega)] calNone_ok (hJ ⟨i + 1, hl⟩ (by show _ - (i + 1) < _ - i; omega)) (by kernel_rfl)
      · exact leaf_next calNone false 200 [hB 4 4 (decide ((i : Int) < (r.cmd.taxes.length : Int))) true (decide_eq_true (by omega)), hB 6 0 (lbB r.cmd i) false hb, hO 6 5 ha, hO 6 7 hv, hB 6 11 (decide (((tAt r.cmd.taxes i).code.size : Int) > 32)) (lbB r.cmd (i + 1)) (by unfold lbB; rw [hb]; rfl), hI 5 1 .i64 (IntKind.i64.wrap ((i : Int) + 1)) ((i + 1 : Nat) : Int) (by rw [wr_i64 (by omega)]; omega)] calNone_ok (hJ ⟨i + 1, hl⟩ (by show _ - (i + 1) < _ - i; omega)) (by kernel_rfl)
    have he : i = r.cmd.taxes.length := by omega
    subst he
    exact leaf_end calNone false 200 [hB 4 4 (decide ((r.cmd.taxes.length : Int) < (r.cmd.taxes.length : Int))) false (decide_eq_false (by omega))] calNone_ok (by kernel_rfl)
  rcases Bool.eq_false_or_eq_true (decide ((r.cmd.name.size : Int) > 32)) with h1 | h1
  · exact leaf_cut (rgK Try.prog LNF 3 []) _ _ calNone false 200 [hB 2 3 (decide ((r.cmd.name.size : Int) > 32)) true h1, hB 2 16 true (lbB r.cmd 0) (by unfold lbB; rw [h1]; rfl), .stop 3] calNone_ok (by kernel_rfl) fin
  · rcases Bool.eq_false_or_eq_true (decide ((r.cmd.legs.length : Int) > 4)) with h2 | h2
    · exact leaf_cut (rgK Try.prog LNF 3 []) _ _ calNone false 200 [hB 2 3 (decide ((r.cmd.name.size : Int) > 32)) false h1, hB 2 8 (decide ((r.cmd.legs.length : Int) > 4)) true h2, hB 2 16 true (lbB r.cmd 0) (by unfold lbB; rw [h1, h2]; rfl), .stop 3] calNone_ok (by kernel_rfl) fin
    · exact leaf_cut (rgK Try.prog LNF 3 []) _ _ calNone false 200 [hB 2 3 (decide ((r.cmd.name.size : Int) > 32)) false h1, hB 2 8 (decide ((r.cmd.legs.length : Int) > 4)) false h2, hB 2 16 (decide ((r.cmd.taxes.length : Int) > 4)) (lbB r.cmd 0) (by unfold lbB; rw [h1, h2]; rfl), .stop 3] calNone_ok (by kernel_rfl) fin
end Go.Proofs.Ytfcjmpgbohgoeaa
