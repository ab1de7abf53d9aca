/- CODEC: the document's writer, by running: a command. -/
import Derived.Test.YtfcjmpgbohgoeaaCp1
namespace Go.Proofs.Ytfcjmpgbohgoeaa
open Go.RowKit Go.Lib Go.Tk Go.Shelf Go.Vc Go.Sx
set_option linter.unusedVariables false
set_option linter.unusedSimpArgs false
def lAt (l : List LegV) (i : Nat) : LegV := l.getD i ⟨0, 0, 0⟩
def tAt (l : List TaxV) (i : Nat) : TaxV := l.getD i ⟨ByteArray.empty, 0⟩
def wL (b : List Value) (l : List LegV) : Nat → List Value
  | 0 => b
  | i + 1 => wL b l i ++ cB (legBy (lAt l i))
def wLn (n : Nat) : Nat → Nat
  | 0 => n
  | i + 1 => wLn n i + 7
def wT (b : List Value) (l : List TaxV) : Nat → List Value
  | 0 => b
  | i + 1 => (wT b l i ++ cB (textBy (tAt l i).code)) ++ cB (encN (tAt l i).amt 8)
def wTn (n : Nat) (l : List TaxV) : Nat → Nat
  | 0 => n
  | i + 1 => (wTn n l i + (1 + (tAt l i).code.size)) + 8
theorem wLn_eq (n : Nat) : ∀ i, wLn n i = n + 7 * i
  | 0 => rfl
  | i + 1 => by unfold wLn; rw [wLn_eq n i]; omega
theorem wTn_le (n : Nat) (l : List TaxV) (h : ∀ t ∈ l, t.code.size ≤ 32) : ∀ i, wTn n l i ≤ n + 41 * i
  | 0 => Nat.le_refl _
  | i + 1 => by
    have ih := wTn_le n l h i
    have : (tAt l i).code.size ≤ 32 := by
      unfold tAt
      rw [List.getD_eq_getElem?_getD]
      cases hq : l[i]? with
      | none => decide
      | some t => exact h t (List.mem_of_getElem? hq)
    show wTn n l i + (1 + (tAt l i).code.size) + 8 ≤ _
    omega
theorem wL_take (b : List Value) (l : List LegV) : ∀ i ≤ l.length, wL b l i = b ++ cB ((l.take i).map legBy).flatten
  | 0, _ => by simp [wL, cB]
  | i + 1, h => by
    unfold wL
    have e1 : lAt l i = l[i] := by unfold lAt; rw [List.getD_eq_getElem?_getD, List.getElem?_eq_getElem h]; rfl
    rw [wL_take b l i (by omega), List.append_assoc, cB_app, List.take_succ_eq_append_getElem (by omega), List.map_append, List.flatten_append, e1]
    simp only [List.map_cons, List.map_nil, List.flatten_cons, List.flatten_nil, List.append_nil]
theorem wT_take (b : List Value) (l : List TaxV) : ∀ i ≤ l.length, wT b l i = b ++ cB ((l.take i).map taxBy).flatten
  | 0, _ => by simp [wT, cB]
  | i + 1, h => by
    unfold wT
    have e1 : tAt l i = l[i] := by unfold tAt; rw [List.getD_eq_getElem?_getD, List.getElem?_eq_getElem h]; rfl
    rw [wT_take b l i (by omega), List.append_assoc, List.append_assoc, cB_app, cB_app, List.take_succ_eq_append_getElem (by omega), List.map_append, List.flatten_append, e1]
    simp only [List.map_cons, List.map_nil, List.flatten_cons, List.flatten_nil, List.append_nil, taxBy]
theorem lAt_get {l : List LegV} {i : Nat} (h : i < l.length) : l[i]? = some (lAt l i) := by
  unfold lAt; rw [List.getD_eq_getElem?_getD, List.getElem?_eq_getElem h]; rfl
theorem tAt_get {l : List TaxV} {i : Nat} (h : i < l.length) : l[i]? = some (tAt l i) := by
  unfold tAt; rw [List.getD_eq_getElem?_getD, List.getElem?_eq_getElem h]; rfl
def CMF : Nat := 29
def B0 (c : CmdV) : List Value := (((([.int .u8 c.kind] ++ cB (tickBy c.tick)) ++ [.int .u8 c.at_]) ++ cB (encN c.amount 8)) ++ cB (textBy c.name)) ++ [.int .u8 (IntKind.u8.wrap (c.legs.length : Int))]
def n0 (c : CmdV) : Nat := 1 + 9 + 1 + 8 + (1 + c.name.size) + 1
def B1 (c : CmdV) : List Value := (wL (B0 c) c.legs c.legs.length ++ cB (encN c.fare 8)) ++ [.int .u8 (IntKind.u8.wrap (c.taxes.length : Int))]
def n1 (c : CmdV) : Nat := wLn (n0 c) c.legs.length + 8 + 1
theorem cmd_w (c : CmdV) (al at1 : Option Addr) (cl ct : Nat) (D : Chunk) (rl : Rd D al (cellsL legE c.legs)) (rt : Rd D at1 (cellsL taxE c.taxes)) (h : CmdIn c) (hs : Short c) :
    CallOK Try.prog CMF [.agg (cmdS c (.val (.slice al c.legs.length cl)) (.val (.slice at1 c.taxes.length ct)))] [((0, 0), .fam fun _ _ => D)] [] (.raw 1 0) [((1, 0), u8R (wT (B1 c) c.taxes c.taxes.length ++ cB (encN c.penalty 8)) (wTn (n1 c) c.taxes c.taxes.length + 8))] := by
  have hnl := hs.legs
  have hnt := hs.taxes
  have hnm := hs.name
  have hb0 : n0 c ≤ 1000 := by unfold n0; omega
  have hb1 : n1 c ≤ 2000 := by unfold n1; rw [wLn_eq]; omega
  have hbT := wTn_le (n1 c) c.taxes hs.codes
  refine callOK_intro (by kernel_rfl) fun eb R => ?_
  refine go_loop (X := { i : Nat // i ≤ c.legs.length }) 0 [] (fun x => ([(1, .ptr 1 0 0), (3, .raw 1 1), (4, .val (.int .i64 (x.1 : Int)))],
      [((0, 0), .fam fun _ _ => D), ((1, 0), .box none (cmdS c (.val (.slice al c.legs.length cl)) (.val (.slice at1 c.taxes.length ct)))), ((1, 1), u8R (wL (B0 c) c.legs x.1) (wLn (n0 c) x.1))]))
    (fun x => c.legs.length - x.1) ⟨0, Nat.zero_le _⟩ calNone false 200
    [hC 2 3 (tick_w c.tick h.tick), .opt 2 4 (.app 10 (by decide) _ (cB_one (tickBy c.tick))), hC 4 3 (num_ok c.amount 8 (by omega)), .opt 4 4 (.app 19 (by decide) _ (cB_one (encN c.amount 8))),
     hC 5 4 (text_w c.name (by omega)), .opt 5 5 (.app (1 + 9 + 1 + 8 + (1 + c.name.size)) (by omega) _ (cB_one (textBy c.name))), .opt 6 7 (.le (n0 c) (by omega))] calNone_ok (by kernel_rfl) ?_
  rintro ⟨i, hi⟩ J hJ
  have hbL : wLn (n0 c) i ≤ 2000 := by rw [wLn_eq]; omega
  by_cases hl : i < c.legs.length
  · have hx := lAt_get hl
    have hq : 0 < c.legs.length := by omega
    have ha := idx_open (P := Try.prog) (o := opOf Try.prog CMF 10 5) (x := .tmp 49) (y := .tmp 50) (t := 25) (e := 36) (size := 3) (ie := (Try.prog.info? 36).get (by kernel_rfl)) (k := .i64) (cap := cl) (by kernel_rfl) Try.underlying25 (Option.some_get _).symm (by kernel_rfl) (by decide) (cellsL_len (enc := legE) (size := 3) (fun _ => rfl) c.legs) rl hl
    have hv := load_open (P := Try.prog) (o := opOf Try.prog CMF 10 6) (x := .tmp 51) (t := 36) (k := i * 3) (j := 0) (cs := legS (lAt c.legs i)) (u := .agg (legS (lAt c.legs i))) (by kernel_rfl) (by kernel_rfl) rl (legS_at hx) (by rw [cellsL_len (enc := legE) (size := 3) (fun _ => rfl)]; omega)
    exact leaf_next calNone false 200 [hB 8 5 (decide ((i : Int) < (c.legs.length : Int))) true (decide_eq_true (by omega)), hO 10 5 ha, hO 10 6 hv, hC 10 7 (leg_w (lAt c.legs i) (h.legs _ (List.mem_of_getElem? hx))), .opt 10 8 (.app (wLn (n0 c) i + 7) (by omega) _ (cB_one (legBy (lAt c.legs i)))), hI 9 1 .i64 (IntKind.i64.wrap ((i : Int) + 1)) ((i + 1 : Nat) : Int) (by rw [wr_i64 (by omega)]; omega)] calNone_ok (hJ ⟨i + 1, hl⟩ (by show _ - (i + 1) < _ - i; omega)) (by kernel_rfl)
  have he : i = c.legs.length := by omega
  subst he
  refine go_loop (X := { i : Nat // i ≤ c.taxes.length }) 1 [] (fun x => ([(1, .ptr 1 0 0), (3, .raw 1 1), (5, .val (.int .i64 (x.1 : Int)))],
      [((0, 0), .fam fun _ _ => D), ((1, 0), .box none (cmdS c (.val (.slice al c.legs.length cl)) (.val (.slice at1 c.taxes.length ct)))), ((1, 1), u8R (wT (B1 c) c.taxes x.1) (wTn (n1 c) c.taxes x.1))]))
    (fun x => c.taxes.length - x.1) ⟨0, Nat.zero_le _⟩ calNone false 200
    [hB 8 5 (decide ((c.legs.length : Int) < (c.legs.length : Int))) false (decide_eq_false (by omega)), hC 11 4 (num_ok c.fare 8 (by omega)), .opt 11 5 (.app (wLn (n0 c) c.legs.length + 8) (by omega) _ (cB_one (encN c.fare 8))), .opt 12 7 (.le (n1 c) (by omega))] calNone_ok (by kernel_rfl) ?_
  rintro ⟨i, hi⟩ J hJ
  have hbi := hbT i
  by_cases hl : i < c.taxes.length
  · have hx := tAt_get hl
    have hq : 0 < c.taxes.length := by omega
    have hcs := hs.codes _ (List.mem_of_getElem? hx)
    have ha := idx_open (P := Try.prog) (o := opOf Try.prog CMF 16 5) (x := .tmp 80) (y := .tmp 81) (t := 26) (e := 58) (size := 2) (ie := (Try.prog.info? 58).get (by kernel_rfl)) (k := .i64) (cap := ct) (by kernel_rfl) Try.underlying26 (Option.some_get _).symm (by kernel_rfl) (by decide) (cellsL_len (enc := taxE) (size := 2) (fun _ => rfl) c.taxes) rt hl
    have ha' := idx_open (P := Try.prog) (o := opOf Try.prog CMF 17 5) (x := .tmp 90) (y := .tmp 91) (t := 26) (e := 58) (size := 2) (ie := (Try.prog.info? 58).get (by kernel_rfl)) (k := .i64) (cap := ct) (by kernel_rfl) Try.underlying26 (Option.some_get _).symm (by kernel_rfl) (by decide) (cellsL_len (enc := taxE) (size := 2) (fun _ => rfl) c.taxes) rt hl
    have hv := load_open2 (P := Try.prog) (o := opOf Try.prog CMF 16 7) (x := .tmp 83) (t := 9) (k := i * 2) (j := 0) (cs := taxS (tAt c.taxes i)) (u := .val (.string (tAt c.taxes i).code)) (by kernel_rfl) (by kernel_rfl) rt (taxS_at hx) (by rw [cellsL_len (enc := taxE) (size := 2) (fun _ => rfl)]; omega)
    have hv' := load_open2 (P := Try.prog) (o := opOf Try.prog CMF 17 7) (x := .tmp 93) (t := 2) (k := i * 2) (j := 1) (cs := taxS (tAt c.taxes i)) (u := .val (.int .i64 (tAt c.taxes i).amt)) (by kernel_rfl) (by kernel_rfl) rt (taxS_at hx) (by rw [cellsL_len (enc := taxE) (size := 2) (fun _ => rfl)]; omega)
    exact leaf_next calNone false 200 [hB 14 5 (decide ((i : Int) < (c.taxes.length : Int))) true (decide_eq_true (by omega)), hO 16 5 ha, hO 16 7 hv, hC 16 8 (text_w (tAt c.taxes i).code (by omega)), .opt 16 9 (.app (wTn (n1 c) c.taxes i + (1 + (tAt c.taxes i).code.size)) (by omega) _ (cB_one (textBy (tAt c.taxes i).code))),
      hO 17 5 ha', hO 17 7 hv', hC 17 8 (num_ok (tAt c.taxes i).amt 8 (by omega)), .opt 17 9 (.app (wTn (n1 c) c.taxes i + (1 + (tAt c.taxes i).code.size) + 8) (by omega) _ (cB_one (encN (tAt c.taxes i).amt 8))), hI 15 1 .i64 (IntKind.i64.wrap ((i : Int) + 1)) ((i + 1 : Nat) : Int) (by rw [wr_i64 (by omega)]; omega)] calNone_ok (hJ ⟨i + 1, hl⟩ (by show _ - (i + 1) < _ - i; omega)) (by kernel_rfl)
  have he : i = c.taxes.length := by omega
  subst he
  exact leaf_end calNone false 200 [hB 14 5 (decide ((c.taxes.length : Int) < (c.taxes.length : Int))) false (decide_eq_false (by omega)), hC 18 4 (num_ok c.penalty 8 (by omega)), .opt 18 5 (.app (wTn (n1 c) c.taxes c.taxes.length + 8) (by omega) _ (cB_one (encN c.penalty 8)))] calNone_ok (by kernel_rfl)
end Go.Proofs.Ytfcjmpgbohgoeaa
