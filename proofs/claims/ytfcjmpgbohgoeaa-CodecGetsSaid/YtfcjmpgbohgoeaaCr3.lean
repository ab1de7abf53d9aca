/- CODEC: the document's Get, by running. -/
import Derived.Test.YtfcjmpgbohgoeaaM45
import Derived.Test.YtfcjmpgbohgoeaaCo13
namespace Go.Proofs.Ytfcjmpgbohgoeaa
open Go.RowKit Go.Lib Go.Tk Go.Shelf Go.Vc Go.Sx
set_option linter.unusedVariables false
set_option linter.unusedSimpArgs false
attribute [local irreducible] rmany rtext rleg rtick rtake rval
def rLl (σ : WS) : Nat → List LegV
  | 0 => []
  | i + 1 => rLl σ i ++ [(rleg (rLs σ i)).1]
def rTx (σ : WS) : TaxV := ⟨(rtext σ).1, IntKind.i64.wrap (rval (rtext σ).2 8)⟩
def rTl (σ : WS) : Nat → List TaxV
  | 0 => []
  | i + 1 => rTl σ i ++ [rTx (rTs σ i)]
theorem rLc_eq (σ : WS) : ∀ i, rLc σ i = cellsL legE (rLl σ i)
  | 0 => rfl
  | i + 1 => by unfold rLc rLl; rw [cellsL_snoc, rLc_eq σ i]; rfl
theorem rTc_eq (σ : WS) : ∀ i, rTc σ i = cellsL taxE (rTl σ i)
  | 0 => rfl
  | i + 1 => by unfold rTc rTl; rw [cellsL_snoc, rTc_eq σ i]; rfl
theorem rLl_len (σ : WS) : ∀ i, (rLl σ i).length = i
  | 0 => rfl
  | i + 1 => by unfold rLl; rw [List.length_append, rLl_len σ i]; rfl
theorem rTl_len (σ : WS) : ∀ i, (rTl σ i).length = i
  | 0 => rfl
  | i + 1 => by unfold rTl; rw [List.length_append, rTl_len σ i]; rfl
def rcmdV (σ : WS) : CmdV := ⟨IntKind.u8.wrap (rval σ 1), (rc2 σ).1, IntKind.u8.wrap (rval (rc2 σ).2 1), (rc5 σ).1, rLl (rc6 σ).2 (rc6 σ).1, IntKind.i64.wrap (rval (rc7 σ) 8), rTl (rc9 σ).2 (rc9 σ).1, IntKind.i64.wrap (rval (rc10 σ) 8), IntKind.i64.wrap (rval (rtake (rc2 σ).2 1) 8)⟩
def rmsgV (σ : WS) : MsgV := ⟨IntKind.u8.wrap (rval σ 1), (rm2 σ).1, IntKind.u8.wrap (rval (rm2 σ).2 1), (rm4 σ).1, IntKind.i64.wrap (rval (rm4 σ).2 8), IntKind.u8.wrap (rval (rm5 σ) 1), IntKind.u32.wrap (rval (rm6 σ) 4), IntKind.i64.wrap (rval (rm7 σ) 8), IntKind.i64.wrap (rval (rm8 σ) 8)⟩
def cmdS (c : CmdV) (vl vt : SV) : List SV := [.val (.int .u8 c.kind), .val (.int .u8 c.tick.c), .val (.int .u64 c.tick.r), .val (.int .u8 c.at_), .val (.string c.name), vl, .val (.int .i64 c.fare), vt, .val (.int .i64 c.penalty), .val (.int .i64 c.amount)]
def msgS (m : MsgV) : List SV := [.val (.int .u8 m.kind), .val (.int .u8 m.tick.c), .val (.int .u64 m.tick.r), .val (.int .u8 m.at_), .val (.int .u8 m.leg.c), .val (.int .u16 m.leg.f), .val (.int .u32 m.leg.x), .val (.int .i64 m.value), .val (.int .u8 m.status), .val (.int .u32 m.nonce), .val (.int .i64 m.amount), .val (.int .i64 m.code)]
def recS (r : RecV) (vl vt : SV) : List SV := .val (.int .u8 r.kind) :: (cmdS r.cmd vl vt ++ .val (.int .u8 r.frm) :: .val (.int .u64 r.number) :: msgS r.msg)
theorem rcmd_ok' (D : Chunk) (σ : WS) (hb : σ.bs.length ≤ 1000000) : CallOK Try.prog 34 [.ptr 0 0 0] [] [((0, 0), rdS D σ)]
    (.agg (cmdS (rcmdV σ) (.raw 1 0) (.raw 1 1))) [((0, 0), rdS D (rtake (rc10 σ) 8)), ((1, 0), legRow (rcmdV σ).legs.length (cellsL legE (rcmdV σ).legs)), ((1, 1), taxRow (rcmdV σ).taxes.length (cellsL taxE (rcmdV σ).taxes))] := by
  have h := rcmd_ok D σ hb
  rw [rLc_eq, rTc_eq] at h
  have e1 : (rcmdV σ).legs.length = (rc6 σ).1 := rLl_len _ _
  have e2 : (rcmdV σ).taxes.length = (rc9 σ).1 := rTl_len _ _
  rw [e1, e2]
  exact h
def rgK1 (bs : List Int) : Int := IntKind.u8.wrap (rval ⟨false, bs⟩ 1)
def rg1 (bs : List Int) : WS := rtake ⟨false, bs⟩ 1
def rg3 (bs : List Int) : WS := rtake (rtake (rg1 bs) 1) 8
def rgF (bs : List Int) : Int := IntKind.u8.wrap (rval (rg1 bs) 1)
def rgN (bs : List Int) : Int := rval (rtake (rg1 bs) 1) 8
def rgG (bs : List Int) : RecV × WS := if rgK1 bs = 1 then (⟨rgK1 bs, rcmdV (rg1 bs), 0, 0, msg0⟩, rtake (rc10 (rg1 bs)) 8)
  else if rgK1 bs = 2 then (⟨rgK1 bs, cmd0, rgF bs, rgN bs, rmsgV (rg3 bs)⟩, rtake (rm8 (rg3 bs)) 8)
  else if rgK1 bs = 3 then (⟨rgK1 bs, cmd0, rgF bs, rgN bs, msg0⟩, rg3 bs)
  else (⟨rgK1 bs, cmd0, 0, 0, msg0⟩, ⟨true, (rg1 bs).bs⟩)
def GF : Nat := 17
def recsAt (r : RecV) : Heap := [((1, 2), .box none (recS r (.raw 1 3) (.raw 1 4))), ((1, 3), legRow r.cmd.legs.length (cellsL legE r.cmd.legs)), ((1, 4), taxRow r.cmd.taxes.length (cellsL taxE r.cmd.taxes))]
theorem rget_pre (a : Option Addr) (c : Nat) (bs : List Int) (D : Chunk) (hR : Rd D a (bs.map (.int .u8))) (hlc : bs.length ≤ c) (hac : a = none → c = 0) (hin : ∀ x ∈ bs, 0 ≤ x ∧ x ≤ 255) (hb : bs.length ≤ 800000) {ret : SV} {rp : Heap} {eb : Env} {R : List Chunk}
    (h : ∀ x : Option Addr × Nat, Go Try.prog GF ret rp eb R .nrm (rgK Try.prog GF 13 []) [(2, .ptr 1 0 0), (4, .ptr 1 1 0), (5, .ptr 1 2 0)] (((1, 1), .box none [.val (.slice x.1 (rgG bs).2.bs.length x.2), .val (.bool (!(rgG bs).2.bad))]) :: ((0, 0), .fam fun _ _ => D) :: ((1, 0), .box none (recS rec0 (.val (.slice none 0 0)) (.val (.slice none 0 0)))) :: recsAt (rgG bs).1)) :
    Go Try.prog GF ret rp eb R .nrm [.code (bodyOf Try.prog GF)] (argSlots 0 [.val (.slice a bs.length c)]) [((0, 0), .fam fun _ _ => D)] := by
  refine leaf_cut (rgK Try.prog GF 2 []) [(2, .ptr 1 0 0), (4, .ptr 1 1 0)] [((1, 1), .box none [.val (.slice a bs.length c), .val (.bool true)]), ((0, 0), .fam fun _ _ => D), ((1, 0), .box none (recS rec0 (.val (.slice none 0 0)) (.val (.slice none 0 0))))] calNone false 200 [.stop 2] calNone_ok (by kernel_rfl) ?_
  refine go_open (X := Unit) (fun _ => [((1, 1), rdS D ⟨false, bs⟩), ((1, 0), .box none (recS rec0 (.val (.slice none 0 0)) (.val (.slice none 0 0))))]) (fun ε w hm => ⟨(), rdC_shut (D := D) (pw := (ε 1 1).1) (σ := ⟨false, bs⟩) (v := .slice a bs.length c) hm ⟨a, c, rfl, hlc, hR, hac, hin⟩⟩) (fun _ => by kernel_rfl) fun _ => ?_
  have fin : ∀ (r : RecV) (σ : WS), (∀ x : Option Addr × Nat, Go Try.prog GF ret rp eb R .nrm (rgK Try.prog GF 13 []) [(2, .ptr 1 0 0), (4, .ptr 1 1 0), (5, .ptr 1 2 0)] (((1, 1), .box none [.val (.slice x.1 σ.bs.length x.2), .val (.bool (!σ.bad))]) :: ((0, 0), .fam fun _ _ => D) :: ((1, 0), .box none (recS rec0 (.val (.slice none 0 0)) (.val (.slice none 0 0)))) :: recsAt r)) →
      Go Try.prog GF ret rp eb R .nrm (rgK Try.prog GF 13 []) [(2, .ptr 1 0 0), (4, .ptr 1 1 0), (5, .ptr 1 2 0)] (((1, 1), rdS D σ) :: ((1, 0), .box none (recS rec0 (.val (.slice none 0 0)) (.val (.slice none 0 0)))) :: recsAt r) := fun r σ h =>
    go_open (X := Option Addr × Nat) (fun x => ((1, 1), .box none [.val (.slice x.1 σ.bs.length x.2), .val (.bool (!σ.bad))]) :: ((0, 0), .fam fun _ _ => D) :: ((1, 0), .box none (recS rec0 (.val (.slice none 0 0)) (.val (.slice none 0 0)))) :: recsAt r) (fun ε w hm => by
      obtain ⟨a, c, h1, -⟩ := rdC_open (D := D) (pw := (ε 1 1).1) (σ := σ) hm
      exact ⟨(a, c), h1⟩) (fun _ => by kernel_rfl) h
  have l0 : (rg1 bs).bs.length ≤ bs.length := by unfold rg1; exact rtake_len _ _
  have l1 : (rtake (rg1 bs) 1).bs.length ≤ (rg1 bs).bs.length := rtake_len _ _
  have l3 : (rg3 bs).bs.length ≤ (rtake (rg1 bs) 1).bs.length := by unfold rg3; exact rtake_len _ _
  have hv0 := value_ok D ⟨false, bs⟩ 1 (by omega) (by show bs.length ≤ _; omega)
  unfold rgG at h
  by_cases k1 : rgK1 bs = 1
  · rw [if_pos k1] at h
    exact leaf_cut (rgK Try.prog GF 13 []) _ _ calNone false 200 [hC 2 1 hv0, hB 5 0 (decide (rgK1 bs = 1)) true (decide_eq_true k1), hC 6 1 (rcmd_ok' D (rg1 bs) (by omega)), .stop 13] calNone_ok (by kernel_rfl) (fin _ _ h)
  rw [if_neg k1] at h
  by_cases k2 : rgK1 bs = 2
  · rw [if_pos k2] at h
    exact leaf_cut (rgK Try.prog GF 13 []) _ _ calNone false 200 [hC 2 1 hv0, hB 5 0 (decide (rgK1 bs = 1)) false (decide_eq_false k1), hB 7 0 (decide (rgK1 bs = 2)) true (decide_eq_true k2), hC 9 1 (value_ok D (rg1 bs) 1 (by omega) (by omega)), hC 10 1 (value_ok D (rtake (rg1 bs) 1) 8 (by omega) (by omega)), hB 11 2 (decide (rgK1 bs = 2)) true (decide_eq_true k2), hC 12 1 (rmsg_ok D (rg3 bs) (by omega)), .stop 13] calNone_ok (by kernel_rfl) (fin _ _ h)
  rw [if_neg k2] at h
  by_cases k3 : rgK1 bs = 3
  · rw [if_pos k3] at h
    exact leaf_cut (rgK Try.prog GF 13 []) _ _ calNone false 200 [hC 2 1 hv0, hB 5 0 (decide (rgK1 bs = 1)) false (decide_eq_false k1), hB 7 0 (decide (rgK1 bs = 2)) false (decide_eq_false k2), hB 8 0 (decide (rgK1 bs = 3)) true (decide_eq_true k3), hC 9 1 (value_ok D (rg1 bs) 1 (by omega) (by omega)), hC 10 1 (value_ok D (rtake (rg1 bs) 1) 8 (by omega) (by omega)), hB 11 2 (decide (rgK1 bs = 2)) false (decide_eq_false k2), .stop 13] calNone_ok (by kernel_rfl) (fin _ _ h)
  · rw [if_neg k3] at h
    refine leaf_cut (rgK Try.prog GF 4 []) [(2, .ptr 1 0 0), (4, .ptr 1 1 0), (5, .ptr 1 2 0)] (((1, 1), rdS D (rg1 bs)) :: ((1, 0), .box none (recS rec0 (.val (.slice none 0 0)) (.val (.slice none 0 0)))) :: recsAt ⟨rgK1 bs, cmd0, 0, 0, msg0⟩) calNone false 200 [hC 2 1 hv0, hB 5 0 (decide (rgK1 bs = 1)) false (decide_eq_false k1), hB 7 0 (decide (rgK1 bs = 2)) false (decide_eq_false k2), hB 8 0 (decide (rgK1 bs = 3)) false (decide_eq_false k3), .stop 4] calNone_ok (by kernel_rfl) ?_
    refine go_open (X := Option Addr × Nat) (fun x => ((1, 1), .box none [.val (.slice x.1 (rg1 bs).bs.length x.2), .val (.bool (!(rg1 bs).bad))]) :: ((0, 0), .fam fun _ _ => D) :: ((1, 0), .box none (recS rec0 (.val (.slice none 0 0)) (.val (.slice none 0 0)))) :: recsAt ⟨rgK1 bs, cmd0, 0, 0, msg0⟩) (fun ε w hm => by
      obtain ⟨a, c, h1, -⟩ := rdC_open (D := D) (pw := (ε 1 1).1) (σ := rg1 bs) hm
      exact ⟨(a, c), h1⟩) (fun _ => by kernel_rfl) fun x => ?_
    exact leaf_cut (rgK Try.prog GF 13 []) _ _ calNone false 200 [.stop 13] calNone_ok (by kernel_rfl) (h x)
def rgBad (bs : List Int) : Bool := (rgG bs).2.bad || decide (((rgG bs).2.bs.length : Int) > 0)
def rgR (bs : List Int) : RecV := if rgBad bs = true then rec0 else (rgG bs).1
def rgE (bs : List Int) : Int := if rgBad bs = true then 140 else 0
theorem rget_ok (a : Option Addr) (c : Nat) (bs : List Int) (D : Chunk) (hR : Rd D a (bs.map (.int .u8))) (hlc : bs.length ≤ c) (hac : a = none → c = 0) (hin : ∀ x ∈ bs, 0 ≤ x ∧ x ≤ 255) (hb : bs.length ≤ 800000) :
    CallOK Try.prog GF [.val (.slice a bs.length c)] [] [((0, 0), .fam fun _ _ => D)] (.tup [.agg (recS (rgR bs) (.raw 1 0) (.raw 1 1)), .val (.int .i64 (rgE bs))]) [((0, 0), .fam fun _ _ => D), ((1, 0), legRow (rgR bs).cmd.legs.length (cellsL legE (rgR bs).cmd.legs)), ((1, 1), taxRow (rgR bs).cmd.taxes.length (cellsL taxE (rgR bs).cmd.taxes))] := by
  by_cases hbad : (rgG bs).2.bad = true
  · have e : rgBad bs = true := by unfold rgBad; rw [hbad]; rfl
    rw [show rgR bs = rec0 from if_pos e, show rgE bs = 140 from if_pos e]
    refine callOK_intro (by kernel_rfl) fun eb R => rget_pre a c bs D hR hlc hac hin hb fun x => ?_
    exact leaf_end calNone false 200 [hB 13 4 (!(!(rgG bs).2.bad)) true (by rw [hbad]; rfl)] calNone_ok (by kernel_rfl)
  · have hbad : (rgG bs).2.bad = false := by simpa using hbad
    by_cases hl : ((rgG bs).2.bs.length : Int) > 0
    · have e : rgBad bs = true := by unfold rgBad; rw [hbad, decide_eq_true hl]; rfl
      rw [show rgR bs = rec0 from if_pos e, show rgE bs = 140 from if_pos e]
      refine callOK_intro (by kernel_rfl) fun eb R => rget_pre a c bs D hR hlc hac hin hb fun x => ?_
      exact leaf_end calNone false 200 [hB 13 4 (!(!(rgG bs).2.bad)) false (by rw [hbad]; rfl), hB 13 11 (decide (((rgG bs).2.bs.length : Int) > 0)) true (decide_eq_true hl)] calNone_ok (by kernel_rfl)
    · have e : ¬ rgBad bs = true := by unfold rgBad; rw [hbad, decide_eq_false hl]; decide
      rw [show rgR bs = (rgG bs).1 from if_neg e, show rgE bs = 0 from if_neg e]
      refine callOK_intro (by kernel_rfl) fun eb R => rget_pre a c bs D hR hlc hac hin hb fun x => ?_
      exact leaf_end calNone false 200 [hB 13 4 (!(!(rgG bs).2.bad)) false (by rw [hbad]; rfl), hB 13 11 (decide (((rgG bs).2.bs.length : Int) > 0)) false (decide_eq_false hl)] calNone_ok (by kernel_rfl)
end Go.Proofs.Ytfcjmpgbohgoeaa
