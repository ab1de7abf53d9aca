/- POST ONCE by SX 5: a packet comes, or is lost; an acknowledgement comes. -/
import Derived.Test.YtfnneghddndeiaaPn4
namespace Go.Proofs.Ytfnneghddndeiaa
set_option maxRecDepth 100000
open Go.RowKit Go.Lib Go.Tk Go.Shelf Go.Vc Go.Sx
set_option linter.unusedVariables false
set_option linter.unusedSimpArgs false
def onS2 (a : Option Addr) (n cap i : Nat) : Slots := onS1 a n cap i ++ [(15, .ptr 1 8 0)]
def onH2 (F : PnF) (x : PAct) (p : Pk) (PA PB : PostV) (pu ta : List Msg) (way : List Pk) (acks : List Int) : Heap := onH1 F x PA PB pu ta way acks ++ [((1, 8), .box none (pkS p))]
theorem pnL_take {α : Type} {enc : α → List Value} {size : Nat} (hk : ∀ x, (enc x).length = size) : ∀ (l : List α) (k : Nat), (cellsL enc l).take (k * size) = cellsL enc (l.take k)
  | l, 0 => by rw [Nat.zero_mul, List.take_zero, List.take_zero]; rfl
  | [], k + 1 => by simp [cellsL]
  | x :: l, k + 1 => by
    have ih := pnL_take hk l k
    show ((enc x) ++ cellsL enc l).take ((k + 1) * size) = enc x ++ cellsL enc (l.take k)
    rw [Nat.succ_mul, Nat.add_comm, ← hk x, List.take_append, hk x, ← ih]
    congr 1
    · rw [List.take_of_length_le (by rw [hk]; omega)]
    · congr 1; omega
theorem pnL_drop {α : Type} {enc : α → List Value} {size : Nat} (hk : ∀ x, (enc x).length = size) : ∀ (l : List α) (k : Nat), (cellsL enc l).drop (k * size) = cellsL enc (l.drop k)
  | l, 0 => by rw [Nat.zero_mul, List.drop_zero, List.drop_zero]
  | [], k + 1 => by simp [cellsL]
  | x :: l, k + 1 => by
    have ih := pnL_drop hk l k
    show ((enc x) ++ cellsL enc l).drop ((k + 1) * size) = cellsL enc (l.drop k)
    rw [Nat.succ_mul, Nat.add_comm, ← ih, ← List.drop_drop]
    congr 1
    rw [← hk x]; exact List.drop_left
section
variable {F : PnF} {PA PB : PostV} {pu : List Msg} {nt : Nat} {way : List Pk} {acks : List Int} {a : Option Addr} {n cap i : Nat} {eb : Env} {R : List Chunk} {J : Act → World → Prop} {ret : SV} {rp : Heap} {x : PAct}
theorem once_take {p : Pk} (h : OnceOk PA PB pu nt way acks (i + 1)) (hi : i ≤ 300) (hp : 1 ≤ p.num ∧ p.num ≤ pu.length ∧ pu[p.num.toNat - 1]? = some p.m)
    (hq : ∀ PB' nt', OnceOk PA PB' pu nt' way acks (i + 1) → Go Try.prog OnceF ret rp eb R .nrm (rgK Try.prog OnceF 35 [J]) (onSl a n cap i) (onHp F PA PB' pu (pu.take nt') way acks)) :
    Go Try.prog OnceF ret rp eb R .nrm (rgK Try.prog OnceF 33 [J]) (onS2 a n cap i) (onH2 F x p PA PB pu (pu.take nt) way acks) := by
  have lp := h.lp
  have tk := h.tk
  by_cases d : x.dO = 2
  · have d0 : decide (x.dO = 2) = true := decide_eq_true d
    have c1 := took_c PB 0 p.num (by omega) (by omega) (by omega) (by omega)
    obtain ⟨r1, r2⟩ := took_res h p.num
    by_cases e : p.num = (nt : Int) + 1
    · have e1 : decide ((doP (fun X => tookX X p.num) PB 0).1 = 0) = true := decide_eq_true (r1.2 e)
      have fin := hq _ _ (h.took (by omega))
      have hm : pu.take (nt + 1) = pu.take nt ++ [p.m] := by
        have : p.num.toNat - 1 = nt := by omega
        rw [this] at hp
        rw [List.take_add_one, hp.2.2]; rfl
      rw [hm, ← e] at fin
      unfold onHp rM rowM at fin
      rw [cells_snoc, List.length_append] at fin
      have hb : (pu.take nt).length + 1 ≤ 1073741824 := by rw [List.length_take]; omega
      unfold onH2 onH1 onHp rM rowM
      generalize doP (fun X => tookX X p.num) PB 0 = r at *
      generalize pu.take nt = ta at *
      clear hq h r1 r2 hm hp
      exact leaf_cut (rgK Try.prog OnceF 35 [J]) _ _ calNone false 400 [hB 33 2 _ _ d0, hC 33 7 c1, hB 33 8 _ _ e1, .opt 34 4 (.le _ hb), .stop 35] calNone_ok (by kernel_rfl) fin
    · obtain ⟨r3, r4⟩ := r2 e
      have e1 : decide ((doP (fun X => tookX X p.num) PB 0).1 = 0) = false := decide_eq_false (by omega)
      rw [r4] at c1
      have fin := hq _ _ h
      generalize (doP (fun X => tookX X p.num) PB 0).1 = r at *
      clear hq h r1 r2
      exact leaf_cut (rgK Try.prog OnceF 35 [J]) _ _ calNone false 400 [hB 33 2 _ _ d0, hC 33 7 c1, hB 33 8 _ _ e1, .stop 35] calNone_ok (by kernel_rfl) fin
  · have d0 : decide (x.dO = 2) = false := decide_eq_false d
    have fin := hq _ _ h
    clear hq h
    exact leaf_cut (rgK Try.prog OnceF 35 [J]) _ _ calNone false 400 [hB 33 2 _ _ d0, .stop 35] calNone_ok (by kernel_rfl) fin
theorem once_lose {p : Pk} {j : Nat} (hj : j < way.length) (hl : way.length ≤ 301)
    (hq : Go Try.prog OnceF ret rp eb R .nrm (rgK Try.prog OnceF 33 [J]) (onS2 a n cap i) (onH2 F x p PA PB pu (pu.take nt) (way.take j ++ way.drop (j + 1)) acks)) :
    Go Try.prog OnceF ret rp eb R .nrm (rgK Try.prog OnceF 32 [J]) (onS2 a n cap i ++ [(14, .val (.int .i64 (j : Int)))]) (onH2 F x p PA PB pu (pu.take nt) way acks) := by
  generalize pu.take nt = ta at *
  refine go_rowC (1, 5) 50 16 way.length (cellsL encPk way) (by kernel_rfl) fun wa wc hwc => ?_
  have hlen : (cellsL encPk way).length = way.length * 16 := cellsL_len (enc := encPk) (size := 16) (fun _ => rfl) way
  refine go_open (X := Unit) (fun _ => [((0, 7), .fam fun _ _ => rowC 50 16 (.slice wa way.length wc) way.length (cellsL encPk way)), ((0, 9), .fam F), ((1, 0), .fam (postF PA)), ((1, 1), .fam (postF PB)), ((1, 3), rM pu), ((1, 4), rM ta), ((1, 6), rU acks), ((1, 7), .box none (actS x)), ((1, 8), .box none (pkS p))]) (fun ε w hM => ⟨(), hM.front 5 rfl⟩) (fun _ => by kernel_rfl) fun _ => ?_
  have s1 := slc_hi (P := Try.prog) (t := 29) (size := 16) (a := wa) (n := way.length) (c := wc) (k := j) (q := .i64) (by kernel_rfl) (by omega)
  have s2 := slc_lo (P := Try.prog) (t := 29) (size := 16) (a := wa) (n := way.length) (c := wc) (k := j + 1) (q := .i64) (by kernel_rfl) (by omega) hwc
  have hR : ∀ b v, Rd ((fun _ _ => rowC 50 16 (.slice wa way.length wc) way.length (cellsL encPk way) : PnF) b v) wa (cellsL encPk way) := fun b v => rd_row
  have a1 := app_openG (P := Try.prog) (t := 29) (t' := 29) (size := 16) (j := 7) (a := wa) (n := j) (cap := wc) (xs := (cellsL encPk way).take (j * 16)) Try.underlying29 Try.underlying29 (by kernel_rfl) (by rw [List.length_take, hlen]; omega) (fun u hu => cellsL_one encPk_one way u (List.mem_of_mem_take hu)) (fun b v => rd_take (hR b v) _) (by omega)
  have a2 := app_openM (P := Try.prog) (t := 29) (t' := 29) (size := 16) (j := 7) (m := j) (a := loAd wa wc (j + 1) 16) (n := way.length - (j + 1)) (cap := wc - (j + 1)) (ys := (cellsL encPk way).take (j * 16)) (xs := (cellsL encPk way).drop ((j + 1) * 16)) Try.underlying29 Try.underlying29 (by kernel_rfl) (by rw [List.length_drop, hlen, Nat.sub_mul]) (fun u hu => cellsL_one encPk_one way u (List.mem_of_mem_drop hu)) (fun b v => rd_lo (hR b v) hlen hwc) (by omega)
  have z1 : IntKind.i64.wrap ((j : Int) + 1) = ((j + 1 : Nat) : Int) := by rw [wr_i64 (by omega)]; omega
  have fin := hq
  unfold onH2 onH1 onHp rP rowP at fin
  have e1 : (way.take j ++ way.drop (j + 1)).length = j + (way.length - (j + 1)) := by rw [List.length_append, List.length_take, List.length_drop]; omega
  have e2 : cellsL encPk (way.take j ++ way.drop (j + 1)) = (cellsL encPk way).take (j * 16) ++ (cellsL encPk way).drop ((j + 1) * 16) := by
    rw [pnL_take (enc := encPk) (fun _ => rfl), pnL_drop (enc := encPk) (fun _ => rfl)]
    unfold cellsL
    rw [List.map_append, List.flatten_append]
  rw [e1, e2] at fin
  clear hq e1 e2 hR
  exact leaf_cut (rgK Try.prog OnceF 33 [J]) _ _ calNone false 400 [hG 32 2 s1, hG 32 3 a1, hI 32 6 IntKind.i64 _ _ z1, hG 32 7 s2, hG 32 8 a2, .stop 33] calNone_ok (by kernel_rfl) fin
end
end Go.Proofs.Ytfnneghddndeiaa
