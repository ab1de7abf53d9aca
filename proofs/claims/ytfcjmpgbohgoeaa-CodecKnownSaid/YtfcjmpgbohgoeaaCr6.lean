/- CODEC: the document's Same says of one record that it is the same. -/
import Derived.Test.YtfcjmpgbohgoeaaSxB
import Derived.Test.YtfcjmpgbohgoeaaM44
import Derived.Test.YtfcjmpgbohgoeaaCo10
namespace Go.Proofs.Ytfcjmpgbohgoeaa
open Go.RowKit Go.Lib Go.Tk Go.Shelf Go.Vc Go.Sx
set_option linter.unusedVariables false
set_option linter.unusedSimpArgs false
def RS : Nat := 14
def saleS (c : CmdV) (vl vt : SV) : List SV := [.val (.string c.name), vl, .val (.int .i64 c.fare), vt, .val (.int .i64 c.penalty)]
def legS (l : LegV) : List SV := [.val (.int .u8 l.c), .val (.int .u16 l.f), .val (.int .u32 l.x)]
def taxS (t : TaxV) : List SV := [.val (.string t.code), .val (.int .i64 t.amt)]
theorem legS_at {l : List LegV} {i : Nat} {x : LegV} (h : l[i]? = some x) (ε : Env) (j : Nat) (v : SV) (hv : (legS x)[j]? = some v) : (cellsL legE l)[i * 3 + j]? = some (v.den ε) :=
  cells_at (enc := legE) (fun _ => rfl) h (by
    have h1 : SV.dens ε (legS x) = legE x := rfl
    rw [← h1, dens_get, hv]; rfl)
theorem taxS_at {l : List TaxV} {i : Nat} {x : TaxV} (h : l[i]? = some x) (ε : Env) (j : Nat) (v : SV) (hv : (taxS x)[j]? = some v) : (cellsL taxE l)[i * 2 + j]? = some (v.den ε) :=
  cells_at (enc := taxE) (fun _ => rfl) h (by
    have h1 : SV.dens ε (taxS x) = taxE x := rfl
    rw [← h1, dens_get, hv]; rfl)
def sameH (r : RecV) : Heap := [((0, 0), legRow r.cmd.legs.length (cellsL legE r.cmd.legs)), ((0, 1), taxRow r.cmd.taxes.length (cellsL taxE r.cmd.taxes)), ((0, 2), legRow r.cmd.legs.length (cellsL legE r.cmd.legs)), ((0, 3), taxRow r.cmd.taxes.length (cellsL taxE r.cmd.taxes)),
       ((1, 0), .box none (recS r (.raw 0 0) (.raw 0 1))), ((1, 1), .box none (recS r (.raw 0 2) (.raw 0 3))), ((1, 2), .box none (saleS r.cmd (.raw 0 0) (.raw 0 1))), ((1, 3), .box none (saleS r.cmd (.raw 0 2) (.raw 0 3)))]
def tickS (t : TickV) : List SV := [.val (.int .u8 t.c), .val (.int .u64 t.r)]
theorem same_refl (r : RecV) (hn : r.cmd.legs.length ≤ 1000000 ∧ r.cmd.taxes.length ≤ 1000000) :
    CallOK Try.prog RS [.agg (recS r (.raw 0 0) (.raw 0 1)), .agg (recS r (.raw 0 2) (.raw 0 3))] [((0, 0), legRow r.cmd.legs.length (cellsL legE r.cmd.legs)), ((0, 1), taxRow r.cmd.taxes.length (cellsL taxE r.cmd.taxes)), ((0, 2), legRow r.cmd.legs.length (cellsL legE r.cmd.legs)), ((0, 3), taxRow r.cmd.taxes.length (cellsL taxE r.cmd.taxes))] [] (.val (.bool true)) [] := by
  have hL := fun x : LegV => ne_agg (P := Try.prog) (o := opOf Try.prog RS 7 10) (x := .tmp 42) (y := .tmp 47) (t := 36) (t' := 36) (cs := legS x) (ds := legS x) (b := true) (by kernel_rfl) (by kernel_rfl) (fun _ => rfl) (fun _ => rfl) (fun w => (eq_leg x x w).trans (by rw [(legB_iff x x).2 rfl]))
  have hT := fun x : TaxV => ne_agg (P := Try.prog) (o := opOf Try.prog RS 12 10) (x := .tmp 60) (y := .tmp 65) (t := 58) (t' := 58) (cs := taxS x) (ds := taxS x) (b := true) (by kernel_rfl) (by kernel_rfl) (fun _ => rfl) (fun _ => rfl) (fun w => (eq_tax x x w).trans (by rw [(taxB_iff x x).2 rfl]))
  have hM := eq_agg (P := Try.prog) (o := opOf Try.prog RS 14 24) (x := .tmp 88) (y := .tmp 90) (t := 42) (t' := 42) (cs := msgS r.msg) (ds := msgS r.msg) (b := true) (by kernel_rfl) (by kernel_rfl) (fun _ => rfl) (fun _ => rfl) (fun w => (eq_msg r.msg r.msg w).trans (by rw [(msgB_iff _ _).2 rfl]))
  have hK := eq_agg (P := Try.prog) (o := opOf Try.prog RS 14 42) (x := .tmp 105) (y := .tmp 108) (t := 24) (t' := 24) (cs := tickS r.cmd.tick) (ds := tickS r.cmd.tick) (b := true) (by kernel_rfl) (by kernel_rfl) (fun _ => rfl) (fun _ => rfl) (fun w => (eq_tick r.cmd.tick r.cmd.tick w).trans (by rw [(tickB_iff _ _).2 rfl]))
  have D := fun (x : Int) => decide_eq_true (p := x = x) rfl
  refine callOK_intro (by kernel_rfl) fun eb R => ?_
  refine go_loop (X := { i : Nat // i ≤ r.cmd.legs.length }) 0 [] (fun x => ([(2, .ptr 1 0 0), (3, .ptr 1 1 0), (5, .ptr 1 2 0), (6, .ptr 1 3 0), (7, .val (.int .i64 (x.1 : Int)))], sameH r))
    (fun x => r.cmd.legs.length - x.1) ⟨0, Nat.zero_le _⟩ calNone false 200
    [hB 2 6 (!decide ((r.cmd.legs.length : Int) = r.cmd.legs.length)) false (by simp), hB 2 14 (!decide ((r.cmd.taxes.length : Int) = r.cmd.taxes.length)) false (by simp)] calNone_ok (by kernel_rfl) ?_
  rintro ⟨i, hi⟩ J hJ
  by_cases h : i < r.cmd.legs.length
  · have hx : r.cmd.legs[i]? = some r.cmd.legs[i] := List.getElem?_eq_getElem h
    have hl := load_elt (P := Try.prog) (o := opOf Try.prog RS 7 4) (x := .tmp 41) (t := 36) (cs := legS r.cmd.legs[i]) (n := r.cmd.legs.length) (p := 0) (j := 0) (b := i * 3) (E := 36) (size := 3) (u := .agg (legS r.cmd.legs[i])) (by kernel_rfl) (by kernel_rfl) (legS_at hx)
    have hl' := load_elt (P := Try.prog) (o := opOf Try.prog RS 7 9) (x := .tmp 46) (t := 36) (cs := legS r.cmd.legs[i]) (n := r.cmd.legs.length) (p := 0) (j := 0) (b := i * 3) (E := 36) (size := 3) (u := .agg (legS r.cmd.legs[i])) (by kernel_rfl) (by kernel_rfl) (legS_at hx)
    exact leaf_next calNone false 200 [hB 5 4 (decide ((i : Int) < (r.cmd.legs.length : Int))) true (decide_eq_true (by omega)), .opt 7 3 (.at_ 0 i r.cmd.legs.length (i : Int) ⟨rfl, h⟩), hO 7 4 hl, .opt 7 8 (.at_ 0 i r.cmd.legs.length (i : Int) ⟨rfl, h⟩), hO 7 9 hl', hO 7 10 (hL r.cmd.legs[i]), hI 6 1 .i64 (IntKind.i64.wrap ((i : Int) + 1)) ((i + 1 : Nat) : Int) (by rw [wr_i64 (by omega)]; omega)] calNone_ok (hJ ⟨i + 1, h⟩ (by show _ - (i + 1) < _ - i; omega)) (by kernel_rfl)
  have he : i = r.cmd.legs.length := by omega
  subst he
  refine go_loop (X := { i : Nat // i ≤ r.cmd.taxes.length }) 1 [] (fun x => ([(2, .ptr 1 0 0), (3, .ptr 1 1 0), (5, .ptr 1 2 0), (6, .ptr 1 3 0), (8, .val (.int .i64 (x.1 : Int)))], sameH r))
    (fun x => r.cmd.taxes.length - x.1) ⟨0, Nat.zero_le _⟩ calNone false 200
    [hB 5 4 (decide ((r.cmd.legs.length : Int) < (r.cmd.legs.length : Int))) false (decide_eq_false (by omega))] calNone_ok (by kernel_rfl) ?_
  rintro ⟨i, hi⟩ J hJ
  by_cases h : i < r.cmd.taxes.length
  · have hx : r.cmd.taxes[i]? = some r.cmd.taxes[i] := List.getElem?_eq_getElem h
    have hl := load_elt (P := Try.prog) (o := opOf Try.prog RS 12 4) (x := .tmp 59) (t := 58) (cs := taxS r.cmd.taxes[i]) (n := r.cmd.taxes.length) (p := 0) (j := 0) (b := i * 2) (E := 58) (size := 2) (u := .agg (taxS r.cmd.taxes[i])) (by kernel_rfl) (by kernel_rfl) (taxS_at hx)
    have hl' := load_elt (P := Try.prog) (o := opOf Try.prog RS 12 9) (x := .tmp 64) (t := 58) (cs := taxS r.cmd.taxes[i]) (n := r.cmd.taxes.length) (p := 0) (j := 0) (b := i * 2) (E := 58) (size := 2) (u := .agg (taxS r.cmd.taxes[i])) (by kernel_rfl) (by kernel_rfl) (taxS_at hx)
    exact leaf_next calNone false 200 [hB 10 4 (decide ((i : Int) < (r.cmd.taxes.length : Int))) true (decide_eq_true (by omega)), .opt 12 3 (.at_ 0 i r.cmd.taxes.length (i : Int) ⟨rfl, h⟩), hO 12 4 hl, .opt 12 8 (.at_ 0 i r.cmd.taxes.length (i : Int) ⟨rfl, h⟩), hO 12 9 hl', hO 12 10 (hT r.cmd.taxes[i]), hI 11 1 .i64 (IntKind.i64.wrap ((i : Int) + 1)) ((i + 1 : Nat) : Int) (by rw [wr_i64 (by omega)]; omega)] calNone_ok (hJ ⟨i + 1, h⟩ (by show _ - (i + 1) < _ - i; omega)) (by kernel_rfl)
  have he : i = r.cmd.taxes.length := by omega
  subst he
  exact leaf_end calNone false 200 [hB 10 4 (decide ((r.cmd.taxes.length : Int) < (r.cmd.taxes.length : Int))) false (decide_eq_false (by omega)), hB 14 4 _ true (D r.kind), hB 14 10 _ true (D r.frm), hB 14 17 _ true (D r.number), hO 14 24 hM, hB 14 33 _ true (D r.cmd.kind), hO 14 42 hK, hB 14 51 _ true (D r.cmd.at_), hB 14 60 _ true (D r.cmd.amount), hB 14 67 (r.cmd.name.toList == r.cmd.name.toList) true (beq_self_eq_true _), hB 14 74 _ true (D r.cmd.fare), hB 14 81 _ true (D r.cmd.penalty)] calNone_ok (by kernel_rfl)
end Go.Proofs.Ytfcjmpgbohgoeaa
