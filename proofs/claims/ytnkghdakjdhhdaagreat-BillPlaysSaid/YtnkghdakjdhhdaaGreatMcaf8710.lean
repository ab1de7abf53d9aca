/- Rf11, Rf12, Rf13. -/
import Derived.Test.YtnkghdakjdhhdaaGreatMba8616d
set_option maxRecDepth 100000
set_option linter.unusedVariables false
set_option linter.unusedSimpArgs false
set_option linter.unusedSectionVars false
section
namespace Go.Proofs.YtnkghdakjdhhdaaGreat
open Go.RowKit Go.Lib Go.Tk Go.Shelf Go.Vc Go.Sx
theorem rIx_cases {α : Type} (l : List (Kid × α)) (k : Kid) : (rIx l k = -1 ∧ ∀ p ∈ l, p.1 ≠ k) ∨ ∃ (i : Nat) (z : α), rIx l k = (i : Int) ∧ l[i]? = some (k, z) ∧ ∀ (j : Nat) (p : Kid × α), j < i → l[j]? = some p → p.1 ≠ k := by
  unfold rIx
  cases h : l.findIdx? (fun p => rkEq p.1 k) with
  | none =>
    left
    rw [List.findIdx?_eq_none_iff] at h
    exact ⟨rfl, fun p hp e => by have := h p hp; rw [(rkEq_iff _ _).2 e] at this; cases this⟩
  | some i =>
    right
    rw [List.findIdx?_eq_some_iff_getElem] at h
    obtain ⟨hi, h1, h2⟩ := h
    have e1 := (rkEq_iff _ _).1 h1
    refine ⟨i, l[i].2, rfl, by rw [List.getElem?_eq_getElem hi]; exact congrArg some (Prod.ext e1 rfl), fun j p hj hp e => ?_⟩
    have hjl : j < l.length := by omega
    rw [List.getElem?_eq_getElem hjl] at hp
    cases hp
    exact h2 j hj ((rkEq_iff _ _).2 e)
theorem rheld_store (l : List (Kid × HeldV)) {i : Nat} {k : Kid} {o o' : HeldV} (h : l[i]? = some (k, o)) : (over (cellsL otherC l).toArray (i * 13 + 3) (heldL o')).toList = cellsL otherC (l.set i (k, o')) :=
  over_cells (enc := otherC) (size := 13) (x := (k, o')) (y := (k, o)) (j := 3) (us := heldL o') (fun _ => rfl) (by show (3 + 10 : Nat) ≤ 13; omega) (by rw [over_list]; rfl) l h
def insIx (l : List (Kid × HeldV)) (k : Kid) : Nat := l.findIdx (fun p => !aheadB p.1 k)
theorem insIx_le (l : List (Kid × HeldV)) (k : Kid) : insIx l k ≤ l.length := List.findIdx_le_length
theorem insIx_at {l : List (Kid × HeldV)} {k : Kid} {i : Nat} (hi : i ≤ l.length) (h1 : ∀ j, j < i → aheadB (l.getD j other0).1 k = true) (h2 : i < l.length → aheadB (l.getD i other0).1 k = false) : insIx l k = i := by
  have e1 : ∀ (j : Nat) (h : j < l.length), l[j] = l.getD j other0 := fun j h => by rw [List.getD_eq_getElem?_getD, List.getElem?_eq_getElem h]; rfl
  rcases Nat.lt_or_ge i l.length with h | h
  · unfold insIx
    rw [List.findIdx_eq h]
    refine ⟨by rw [e1 i h, h2 h]; rfl, fun j hj => by rw [e1 j (by omega), h1 j hj]; rfl⟩
  · have : i = l.length := by omega
    subst this
    unfold insIx
    rw [List.findIdx_eq_length]
    intro x hx
    obtain ⟨j, hj, rfl⟩ := List.mem_iff_getElem.1 hx
    rw [e1 j hj, h1 j hj]; rfl
def insH (l : List (Kid × HeldV)) (k : Kid) (h : HeldV) : List (Kid × HeldV) := (l.take (insIx l k) ++ [(k, h)]) ++ l.drop (insIx l k)
def RefV.badK (B : RefV) (k : Kid) : Bool := decide (k.t.c = B.self) || (!ticketB k.t.c k.t.r B.n || decide (4 ≤ k.i))
def RefV.setHE (B : RefV) (k : Kid) : Int := bif B.badK k then 1 else bif decide (0 ≤ rIx B.helds k) then 0 else bif decide ((64 : Int) ≤ (B.helds.length : Int)) then 3 else 0
def RefV.setH (B : RefV) (k : Kid) (h : HeldV) : RefV := bif B.badK k then B else bif decide (0 ≤ rIx B.helds k) then { B with helds := B.helds.set (rIx B.helds k).toNat (k, h) } else bif decide ((64 : Int) ≤ (B.helds.length : Int)) then B else { B with helds := insH B.helds k h }
def RSetHeldF : Nat := 29
theorem kidOtherL (x : Kid × HeldV) : (otherC x).length = 13 := rfl
theorem other_one (x : Kid × HeldV) : ∀ u ∈ otherC x, u.oneCell' = true := fun u hu => by
  have : (otherC x).all (·.oneCell') = true := rfl
  exact List.all_eq_true.1 this u hu
theorem rset_end (D : CF) {eb : Env} {R : List Chunk} (B : RefV) (k : Kid) (h : HeldV) {i : Nat} (hi : i ≤ B.helds.length) (hn : B.helds.length < 64) (e : insIx B.helds k = i) :
    Go Tryz.prog RSetHeldF (eN 0) ([] ++ rfN D { B with helds := insH B.helds k h } (0, 1) (0, 2) (1, 0)) eb R .nrm (rgK Tryz.prog RSetHeldF 12 []) [(0, .ptr 0 0 0), (4, .ptr 1 0 0), (5, .ptr 1 1 0), (7, .val (.int .i64 (i : Int)))] (rfS D B 0 ++ [((1, 0), .box none (kidS k)), ((1, 1), .box none (heldS h))]) := by
  have q1 := q_drop (P := Tryz.prog) (t := 79) (k := .i64) (i := i) (E := 148) (size := 13) (enc := otherC) B.helds (by kernel_rfl) hi
  have q2 := q_copy (P := Tryz.prog) (t := 79) (i := i) (E := 148) (size := 13) (enc := otherC) B.helds kidOtherL other_one Tryz.underlying79 (by kernel_rfl) hi (by omega)
  have q3 := q_take (P := Tryz.prog) (t := 79) (k := .i64) (i := i) (E := 148) (size := 13) (enc := otherC) B.helds (by kernel_rfl) hi
  have q4 := q_cut (P := Tryz.prog) (t := 79) (i := i) (E := 148) (size := 13) (enc := otherC) B.helds (k, h) (otherS (k, h)) (fun _ => rfl) (other_one _) kidOtherL Tryz.underlying79 (by kernel_rfl) hi (by omega)
  have q5 := q_cat (P := Tryz.prog) (t := 79) (E := 148) (size := 13) (enc := otherC) (B.helds.take i ++ [(k, h)]) (B.helds.drop i) kidOtherL other_one Tryz.underlying79 (by kernel_rfl) (by rw [List.length_append, List.length_take, List.length_drop, List.length_singleton]; omega)
  have q6 := q_put (P := Tryz.prog) (t := 79) (off := 4) (cs := [.val (.int .u8 B.self), .val (.int .i64 B.n), .any 0 1, .any 0 2, .any 0 3]) (cs' := [.val (.int .u8 B.self), .val (.int .i64 B.n), .any 0 1, .any 0 2, .any 0 9]) (E := 148) (size := 13) (enc := otherC) ((B.helds.take i ++ [(k, h)]) ++ B.helds.drop i) (by kernel_rfl) (by show (4 + 1 : Nat) ≤ 5; omega) rfl rfl
  unfold insH
  rw [e]
  clear hi hn e
  exact leaf_end calNone false 400 [hG 12 5 q1, hG 12 6 q2, hG 13 6 q3, hG 13 11 q4, hG 13 13 q5, hG 13 16 q6] calNone_ok (by kernel_rfl)
theorem rset_ins (D : CF) {eb : Env} {R : List Chunk} (B : RefV) (k : Kid) (h : HeldV) (hn : B.helds.length < 64) :
    Go Tryz.prog RSetHeldF (eN 0) ([] ++ rfN D { B with helds := insH B.helds k h } (0, 1) (0, 2) (1, 0)) eb R .nrm (rgK Tryz.prog RSetHeldF 9 []) [(0, .ptr 0 0 0), (4, .ptr 1 0 0), (5, .ptr 1 1 0)] (rfS D B 0 ++ [((1, 0), .box none (kidS k)), ((1, 1), .box none (heldS h))]) := by
  have ql := q_len (P := Tryz.prog) (E := 148) (size := 13) (enc := otherC) B.helds
  refine go_loop (X := { i : Nat // i ≤ B.helds.length ∧ ∀ j, j < i → aheadB (B.helds.getD j other0).1 k = true }) 0 [] (fun y => ([(0, .ptr 0 0 0), (4, .ptr 1 0 0), (5, .ptr 1 1 0), (7, .val (.int .i64 (y.1 : Int)))], rfS D B 0 ++ [((1, 0), .box none (kidS k)), ((1, 1), .box none (heldS h))])) (fun y => B.helds.length - y.1) ⟨0, Nat.zero_le _, fun j hj => by omega⟩ calNone false 400 [] calNone_ok (by kernel_rfl) ?_
  rintro ⟨i, hi, hp⟩ J hJ
  have fin := fun e => rset_end D (eb := eb) (R := R) B k h (i := i) hi hn e
  by_cases hl : i < B.helds.length
  · have z0 : decide ((i : Int) < (B.helds.length : Int)) = true := decide_eq_true (by omega)
    have q1 := q_idx (P := Tryz.prog) (t := 79) (i := i) (k := .i64) (E := 148) (size := 13) (enc := otherC) B.helds (fun _ => rfl) (by decide) (by kernel_rfl) hl
    have q2 := q_load (P := Tryz.prog) (t := 27) (b := i * 13) (j := 0) (cs := otherS (B.helds.getD i other0)) (u := .agg (kidS (B.helds.getD i other0).1)) (E := 148) (size := 13) (enc := otherC) B.helds (by kernel_rfl) (otherS_nth hl)
    have z9 : IntKind.i64.wrap ((i : Int) + 1) = ((i + 1 : Nat) : Int) := by rw [wr_i64 (by omega)]; omega
    have c1 := ahead_w (B.helds.getD i other0).1 k
    have fin := fun (hg : aheadB (B.helds.getD i other0).1 k = false) => fin (insIx_at hi hp fun _ => hg)
    have hJ' : aheadB (B.helds.getD i other0).1 k = true → ∀ ε a' w, Rel (ntOf Tryz.prog RSetHeldF) 1 eb R ⟨[(0, .ptr 0 0 0), (4, .ptr 1 0 0), (5, .ptr 1 1 0), (7, .val (.int .i64 ((i + 1 : Nat) : Int)))], rfS D B 0 ++ [((1, 0), .box none (kidS k)), ((1, 1), .box none (heldS h))], 2⟩ ε a' w → J a' w := fun hg => hJ ⟨i + 1, hl, fun j hj => by
      rcases Nat.lt_or_ge j i with hj' | hj'
      · exact hp j hj'
      · have : j = i := by omega
        subst this; exact hg⟩ (by show _ - (i + 1) < _ - i; omega)
    show Go Tryz.prog RSetHeldF _ ([] ++ rfN D { B with helds := insH B.helds k h } (0, 1) (0, 2) (1, 0)) eb R .nrm (.code (lpB Tryz.prog RSetHeldF 0 []) :: .lp J :: lpK Tryz.prog RSetHeldF 0 []) [(0, .ptr 0 0 0), (4, .ptr 1 0 0), (5, .ptr 1 1 0), (7, .val (.int .i64 (i : Int)))] (rfS D B 0 ++ [((1, 0), .box none (kidS k)), ((1, 1), .box none (heldS h))])
    clear hJ hp
    generalize insH B.helds k h = nw at *
    generalize B.helds.getD i other0 = x at *
    rcases Bool.eq_false_or_eq_true (aheadB x.1 k) with e | e
    · have hJ' := hJ' e
      rw [e] at c1
      clear fin
      exact leaf_round (lpK Tryz.prog RSetHeldF 0 []) false 400 [hG 10 5 ql, hB 10 6 _ _ z0, hG 10 13 q1, hG 10 15 q2, hC 10 17 c1, hI 11 1 IntKind.i64 _ _ z9] hJ' (by kernel_rfl)
    · have fin := fin e
      rw [e] at c1
      clear hJ'
      exact leaf_cut (rgK Tryz.prog RSetHeldF 12 []) _ _ calNone false 400 [hG 10 5 ql, hB 10 6 _ _ z0, hG 10 13 q1, hG 10 15 q2, hC 10 17 c1, .stop 12] calNone_ok (by kernel_rfl) fin
  · have z0 : decide ((i : Int) < (B.helds.length : Int)) = false := decide_eq_false (by omega)
    have fin := fin (insIx_at hi hp fun h => absurd h hl)
    show Go Tryz.prog RSetHeldF _ ([] ++ rfN D { B with helds := insH B.helds k h } (0, 1) (0, 2) (1, 0)) eb R .nrm (.code (lpB Tryz.prog RSetHeldF 0 []) :: .lp J :: lpK Tryz.prog RSetHeldF 0 []) [(0, .ptr 0 0 0), (4, .ptr 1 0 0), (5, .ptr 1 1 0), (7, .val (.int .i64 (i : Int)))] (rfS D B 0 ++ [((1, 0), .box none (kidS k)), ((1, 1), .box none (heldS h))])
    clear hJ hp
    exact leaf_cut (rgK Tryz.prog RSetHeldF 12 []) _ _ calNone false 400 [hG 10 5 ql, hB 10 6 _ _ z0, .stop 12] calNone_ok (by kernel_rfl) fin
theorem rsetHeld_w (D : CF) (B : RefV) {k : Kid} (hk : KidOk k) (h : HeldV) (hn : B.helds.length ≤ 64) :
    CallOK Tryz.prog RSetHeldF [.ptr 0 0 0, .agg (kidS k), .agg (heldS h)] [] (rfC D B) (eN (B.setHE k)) (rfC D (B.setH k h)) := by
  have c1 := rticket_w (c := k.t.c) (r := k.t.r) (n := B.n) hk.1.1
  have c2 := rheld_w D B k (by omega)
  unfold RefV.setHE RefV.setH RefV.badK
  rcases Bool.eq_false_or_eq_true (decide (k.t.c = B.self)) with g1 | g1
  · rw [g1]
    exact rshutN (n1 := (0, 1)) (n2 := (0, 2)) (n3 := (0, 3)) (rd := []) (post := []) (callOK_run 400 [hB 1 7 _ _ g1] (by kernel_rfl) (by kernel_rfl)) rfl rfl rfl rfl
  rcases Bool.eq_false_or_eq_true (ticketB k.t.c k.t.r B.n) with g2 | g2 <;> rw [g2] at c1
  case inr =>
    rw [g1, g2]
    exact rshutN (n1 := (0, 1)) (n2 := (0, 2)) (n3 := (0, 3)) (rd := []) (post := []) (callOK_run 400 [hB 1 7 _ _ g1, hC 1 15 c1] (by kernel_rfl) (by kernel_rfl)) rfl rfl rfl rfl
  rcases Bool.eq_false_or_eq_true (decide (4 ≤ k.i)) with g3 | g3
  · rw [g1, g2, g3]
    exact rshutN (n1 := (0, 1)) (n2 := (0, 2)) (n3 := (0, 3)) (rd := []) (post := []) (callOK_run 400 [hB 1 7 _ _ g1, hC 1 15 c1, hB 1 21 _ _ g3] (by kernel_rfl) (by kernel_rfl)) rfl rfl rfl rfl
  rw [g1, g2, g3]
  simp only [Bool.not_true, Bool.or_false, cond_false]
  rcases rIx_cases B.helds k with ⟨e, -⟩ | ⟨i, z, e, hz, -⟩ <;> rw [e] at c2 ⊢
  · rw [show decide ((0 : Int) ≤ -1) = false by decide]
    simp only [cond_false]
    rcases Bool.eq_false_or_eq_true (decide ((64 : Int) ≤ (B.helds.length : Int))) with g4 | g4
    · have ql := q_len (P := Tryz.prog) (E := 148) (size := 13) (enc := otherC) B.helds
      rw [g4]
      simp only [cond_true]
      exact rshutN (n1 := (0, 1)) (n2 := (0, 2)) (n3 := (0, 3)) (rd := []) (post := []) (callOK_run 400 [hB 1 7 _ _ g1, hC 1 15 c1, hB 1 21 _ _ g3, hC 3 2 c2, hG 7 4 ql, hB 7 5 _ _ g4] (by kernel_rfl) (by kernel_rfl)) rfl rfl rfl rfl
    · have ql := q_len (P := Tryz.prog) (E := 148) (size := 13) (enc := otherC) B.helds
      rw [g4]
      simp only [cond_false]
      refine rshutN (n1 := (0, 1)) (n2 := (0, 2)) (n3 := (1, 0)) (rd := []) (post := []) (callOK_intro (by kernel_rfl) fun eb R => ?_) rfl rfl rfl rfl
      have fin := rset_ins D (eb := eb) (R := R) B k h (by have := of_decide_eq_false g4; omega)
      generalize insH B.helds k h = nw at *
      exact leaf_cut (rgK Tryz.prog RSetHeldF 9 []) _ _ calNone false 400 [hB 1 7 _ _ g1, hC 1 15 c1, hB 1 21 _ _ g3, hC 3 2 c2, hG 7 4 ql, hB 7 5 _ _ g4, .stop 9] calNone_ok (by kernel_rfl) fin
  · have hil := (List.getElem?_eq_some_iff.1 hz).1
    have z0 : decide ((0 : Int) ≤ (i : Int)) = true := decide_eq_true (by omega)
    rw [z0, Int.toNat_natCast]
    simp only [cond_true]
    have q1 := q_idx (P := Tryz.prog) (t := 79) (i := i) (k := .i64) (E := 148) (size := 13) (enc := otherC) B.helds (fun _ => rfl) (by decide) (by kernel_rfl) hil
    have q2 := q_store (P := Tryz.prog) (t := 69) (b := i * 13) (j := 3) (cs := heldS h) (us := heldL h) (E := 148) (size := 13) (enc := otherC) B.helds (B.helds.set i (k, h)) (by kernel_rfl) (fun _ => rfl) rfl (by rw [cellsL_len kidOtherL]; omega) (by rw [cellsL_len kidOtherL]; show i * 13 + 3 + 10 ≤ _; omega) (List.length_set ..) (rheld_store _ hz)
    exact rshutN (n1 := (0, 1)) (n2 := (0, 2)) (n3 := (0, 3)) (rd := []) (post := []) (callOK_run 400 [hB 1 7 _ _ g1, hC 1 15 c1, hB 1 21 _ _ g3, hC 3 2 c2, hG 5 6 q1, hG 5 8 q2] (by kernel_rfl) (by kernel_rfl)) rfl rfl rfl rfl
end Go.Proofs.YtnkghdakjdhhdaaGreat
end
section
namespace Go.Sx
open Go.RowKit Go.Lib Go.Tk Go.Shelf Go.Vc
theorem lkS_knS {s k : Nat} {v : Value} {d : Nat} {u : SV} : ∀ {sl : Slots}, lkS sl d = some u → lkS (knSl (s, k) v sl) d = some (u.kn s k v)
  | [], h => by cases h
  | (d', x) :: sl, h => by
    unfold lkS at h
    unfold knSl
    rw [List.map_cons]
    unfold lkS
    cases hb : Nat.beq d' d with
    | true => rw [hb] at h; cases h; rfl
    | false => rw [hb] at h; exact lkS_knS h
theorem go_raw {P : Program} {f : Nat} {ret : SV} {rp : Heap} {eb : Env} {R : List Chunk} {e : Ex} {K : List It} {sl : Slots} {H : Heap} (k : Nat) (a : Option Addr) (m c : Nat) (sl' : Slots) (H' : Heap) (h1 : sl = knSl (1, k) (.slice a m c) sl') (h2 : H = knH (1, k) (.slice a m c) H')
    (h3 : sl.all (fun x => x.2.ok (isNm k)) = true) (h4 : hok (isNm k) H = true) (h5 : sl'.all (fun x => x.2.ok (ltB 2)) = true) (h6 : hok (ltB 2) H' = true) (h : Go P f ret rp eb R e K sl' H') : Go P f ret rp eb R e K sl H := by
  intro ε a' w hr
  subst h1; subst h2
  have key : ∀ s j, isNm k s j = true → ε s j = eset ε 1 (fun j => bif Nat.beq j k then (0, Value.slice a m c) else ε 1 j) s j := fun s j hs => by
    by_cases h0 : s = 1
    · subst h0
      rw [eset_at]
      cases hb : Nat.beq j k with
      | false => rfl
      | true => unfold isNm at hs; rw [hb] at hs; cases hs
    · rw [eset_ne h0]
  have ek : asSl (eset ε 1 (fun j => bif Nat.beq j k then (0, Value.slice a m c) else ε 1 j) (1, k).1 (1, k).2).2 = .slice a m c := by
    show asSl (eset ε 1 _ 1 k).2 = _
    rw [eset_at, Nat.beq_refl]; rfl
  have en : names (knH (1, k) (.slice a m c) H') = names H' := by unfold names knH; rw [List.map_map]; rfl
  refine h (eset ε 1 fun j => bif Nat.beq j k then (0, Value.slice a m c) else ε 1 j) a' w ⟨hr.size, hr.defers, ?_, ?_, ?_, h6, ?_, hr.pos⟩
  · intro d v hv
    have hm := lkS_mem hv
    refine ⟨?_, List.all_eq_true.1 h5 _ hm⟩
    have hv2 : lkS (knSl (1, k) (.slice a m c) sl') d = some (v.kn 1 k (.slice a m c)) := lkS_knS hv
    have h7 := hr.slots d _ hv2
    rw [h7.1]
    have hok : (v.kn 1 k (.slice a m c)).ok (isNm k) = true := List.all_eq_true.1 h3 _ (lkS_mem hv2)
    rw [SV.den_congr key _ hok, SV.kn_den ek]
  · have h7 := hr.mem
    rw [hden_congr key h4] at h7
    have e1 : hden (eset ε 1 fun j => bif Nat.beq j k then (0, Value.slice a m c) else ε 1 j) (knH (1, k) (.slice a m c) H') = hden (eset ε 1 fun j => bif Nat.beq j k then (0, Value.slice a m c) else ε 1 j) H' := by
      unfold hden knH
      rw [List.map_map]
      exact List.map_congr_left fun x _ => SC.kn_den ek x.1 x.2
    rw [e1] at h7
    exact h7
  · rw [← en]; exact hr.nd
  · intro t ht
    rw [eset_ne (by omega)]
    exact hr.e0 t ht
end Go.Sx
namespace Go.Proofs.YtnkghdakjdhhdaaGreat
open Go.RowKit Go.Lib Go.Tk Go.Shelf Go.Vc Go.Sx
def valsRow (p : DocV × DocA) : Chunk := rowC 2 1 (.slice p.2.va p.1.vals.length p.2.vc) p.1.vals.length (p.1.vals.map (.int .i64))
def nrm (p : DocV × DocA) : DocV × SaleA := (p.1, ⟨p.2.la, p.2.lc, p.2.ta, p.2.tc⟩)
def rdQ (L : List (DocV × DocA)) : CF := qF 67 17 docL L
def rdX (l : List (DocV × SaleA)) : CF := fun _ v => exC fun (x : { L : List (DocV × DocA) // L.map nrm = l }) => allC (rdQ x.1 0 v :: x.1.map valsRow)
theorem rd_open {l : List (DocV × SaleA)} {b : Nat} {v : Value} {R : List Chunk} {w : World} (h : Mem (rdX l b v :: R) w) : ∃ x : { L : List (DocV × DocA) // L.map nrm = l }, Mem (rdQ x.1 0 v :: allC (x.1.map valsRow) :: R) w := by
  obtain ⟨x, h1⟩ := h.ex
  have h2 : Mem ((rdQ x.1 0 v :: x.1.map valsRow) ++ R) w := h1.all
  refine ⟨x, ?_⟩
  have h3 : Mem (x.1.map valsRow ++ (rdQ x.1 0 v :: R)) w := mem_perm List.perm_middle.symm h2
  exact mem_perm (List.Perm.swap _ _ _) h3.in_all
theorem rd_shut {L : List (DocV × DocA)} {b : Nat} {v : Value} {R : List Chunk} {w : World} (h : Mem (rdQ L 0 v :: allC (L.map valsRow) :: R) w) : Mem (rdX (L.map nrm) b v :: R) w := by
  have h1 := (mem_perm (List.Perm.swap _ _ _) h).all
  have h2 : Mem ((rdQ L 0 v :: L.map valsRow) ++ R) w := mem_perm List.perm_middle h1
  exact Mem.in_ex (f := fun (x : { M : List (DocV × DocA) // M.map nrm = L.map nrm }) => allC (rdQ x.1 0 v :: x.1.map valsRow)) ⟨L, rfl⟩ h2.in_all
theorem rd_more {L : List (DocV × DocA)} {p : DocV × DocA} {b : Nat} {v : Value} {R : List Chunk} {w : World} (h : Mem (rdQ (L ++ [p]) 0 v :: valsRow p :: allC (L.map valsRow) :: R) w) : Mem (rdX (L.map nrm ++ [nrm p]) b v :: R) w := by
  have h1 : Mem (allC (L.map valsRow) :: rdQ (L ++ [p]) 0 v :: valsRow p :: R) w := mem_perm ((List.Perm.swap _ _ _).cons _ |>.trans (List.Perm.swap _ _ _)) h
  have h2 : Mem (L.map valsRow ++ (rdQ (L ++ [p]) 0 v :: valsRow p :: R)) w := h1.all
  have h3 : Mem ((L ++ [p]).map valsRow ++ (rdQ (L ++ [p]) 0 v :: R)) w := by
    rw [List.map_append, List.append_assoc]
    exact mem_perm (List.Perm.append_left _ (List.Perm.swap _ _ _)) h2
  have h4 := rd_shut (b := b) (mem_perm (List.Perm.swap _ _ _) h3.in_all)
  rw [List.map_append] at h4
  exact h4
theorem len_rdX (l : List (DocV × SaleA)) : OpG Tryz.prog (isLenS Tryz.prog) lenX [.any 0 0] [((0, 0), .fam fun _ v => rdX l 0 v)] [] (.val (.int .i64 (l.length : Int))) [] := by
  intro o ho
  refine ⟨(q_len (P := Tryz.prog) (E := 67) (size := 17) (enc := docL) [] o ho).1, fun ε ρ R w hx hM => ?_⟩
  have hM : Mem (rdX l 0 (ε 0 0).2 :: R) w := hM
  obtain ⟨y, hM'⟩ := rd_open hM
  have := (q_len (P := Tryz.prog) (E := 67) (size := 17) (enc := docL) y.1 o ho).2 ε ρ (allC (y.1.map valsRow) :: R) w hx hM'
  have hl : y.1.length = l.length := (List.length_map _).symm.trans (congrArg List.length y.2)
  rw [hl] at this
  refine res_mono (fun u w' ⟨x, h1, h2⟩ => ⟨x, h1, ?_⟩) this
  have h2 : Mem (rdQ y.1 0 (eset ε 1 x 0 0).2 :: allC (y.1.map valsRow) :: R) w' := h2
  have h3 := rd_shut (b := 0) h2
  rw [y.2] at h3
  exact h3
def refNew (self n : Int) : RefV := ⟨self, n, [], [], []⟩
theorem rnew_c {self n : Int} (hs : 0 ≤ self ∧ self < n) (h1 : 2 ≤ n) (h2 : n ≤ 8) : CallOK Tryz.prog RNewF [.val (.int .u8 self), .val (.int .i64 n)] [] [] (.ptr 1 0 0) [((1, 0), .fam (refF (rdX []) (refNew self n)))] :=
  (rnew_ok hs h1 h2).post_mono fun ε R w hM => by
    have hM : Mem (boxE none (ε 1 0).1 #[.int .u8 self, .int .i64 n, .slice none 0 0, .slice none 0 0, .slice none 0 0] :: R) w := hM
    have h3 := mem_noQ (mem_noQ (mem_noQ hM 67 17) 85 13) 148 13
    have h5 : Mem (rdQ [] 0 (.slice none 0 0) :: qcC 148 13 (.slice none 0 0) 0 [] :: qcC 85 13 (.slice none 0 0) 0 [] :: boxE none (ε 1 0).1 #[.int .u8 self, .int .i64 n, .slice none 0 0, .slice none 0 0, .slice none 0 0] :: R) w := h3.front 2 rfl
    have h6 : Mem (allC ([] : List Chunk) :: rdQ [] 0 (.slice none 0 0) :: qcC 148 13 (.slice none 0 0) 0 [] :: qcC 85 13 (.slice none 0 0) 0 [] :: boxE none (ε 1 0).1 #[.int .u8 self, .int .i64 n, .slice none 0 0, .slice none 0 0, .slice none 0 0] :: R) w := Mem.in_all (l := []) h5
    have h7 := rd_shut (L := []) (b := 0) (mem_perm (List.Perm.swap _ _ _) h6)
    have h8 : Mem ([boxE none (ε 1 0).1 #[.int .u8 self, .int .i64 n, .slice none 0 0, .slice none 0 0, .slice none 0 0], rdX [] 0 (.slice none 0 0), rownsF [] 0 (.slice none 0 0), rheldsF [] 0 (.slice none 0 0)] ++ R) w := by
      exact mem_perm (List.Perm.append_right R ((List.Perm.swap (rownsF [] 0 (.slice none 0 0)) (rheldsF [] 0 (.slice none 0 0)) [boxE none (ε 1 0).1 #[.int .u8 self, .int .i64 n, .slice none 0 0, .slice none 0 0, .slice none 0 0]]).cons (rdX [] 0 (.slice none 0 0)) |>.trans (List.perm_append_comm (l₁ := [rdX [] 0 (.slice none 0 0), rownsF [] 0 (.slice none 0 0), rheldsF [] 0 (.slice none 0 0)]) (l₂ := [boxE none (ε 1 0).1 #[.int .u8 self, .int .i64 n, .slice none 0 0, .slice none 0 0, .slice none 0 0]])))) h7
    exact Mem.in_ex (⟨.slice none 0 0, .slice none 0 0, .slice none 0 0⟩ : RfA) h8.in_all
end Go.Proofs.YtnkghdakjdhhdaaGreat
end
section
namespace Go.Proofs.YtnkghdakjdhhdaaGreat
open Go.RowKit Go.Lib Go.Tk Go.Shelf Go.Vc Go.Sx
def RefV.nextT (B : RefV) : Tid := ⟨B.self, (B.docs.length : Int) + 1⟩
def RefV.issE (B : RefV) (s : SaleV) : Int := bif decide ((32 : Int) ≤ (B.docs.length : Int)) then 3 else makeE B.self ((B.docs.length : Int) + 1) s B.n
def issR (t : Tid) (s : SaleV) (vs : List Int) (L : List (Kid × OwnV)) : Nat → List (Kid × OwnV)
  | 0 => L
  | i + 1 => issR t s vs L i ++ [(⟨t, (i : Int)⟩, ownNew (s.legs.getD i leg0) (vs.getD i 0))]
theorem issR_len (t : Tid) (s : SaleV) (vs : List Int) (L : List (Kid × OwnV)) : ∀ i, (issR t s vs L i).length = L.length + i
  | 0 => rfl
  | i + 1 => by
    have := issR_len t s vs L i
    show (issR t s vs L i ++ [_]).length = _
    rw [List.length_append, List.length_singleton]; omega
def RefV.issued (B : RefV) (s : SaleV) (A : SaleA) : RefV := { B with docs := B.docs ++ [(docMade B.nextT s, A)], owns := issR B.nextT s (shareV s.fare (wsOf s)) B.owns (shareV s.fare (wsOf s)).length }
def RIssueF : Nat := 22
def saleX (s : SaleV) (A : SaleA) : List SV := salS s (.val (.slice A.la s.legs.length A.lc)) (.val (.slice A.ta s.taxes.length A.tc))
theorem rissue_no (F : CF) {B : RefV} {s : SaleV} {A : SaleA} (ok : SaleOk s) (hs : 0 ≤ B.self ∧ B.self ≤ 255) (hd : B.docs.length ≤ 32) (hl : ∀ b v, Rd (F b v) A.la (cellsL encLeg s.legs)) (ht : ∀ b v, Rd (F b v) A.ta (cellsL encTax s.taxes)) (hm : B.issE s ≠ 0) :
    CallOK Tryz.prog RIssueF [.ptr 0 0 0, .agg (saleX s A)] [((0, 9), .fam F)] (rfC (rdX B.docs) B) (.tup [.agg (docS doc0 nilS nilS nilS), eN (B.issE s)]) (rfC (rdX B.docs) B) := by
  have c1 := len_rdX B.docs
  rcases Bool.eq_false_or_eq_true (decide ((32 : Int) ≤ (B.docs.length : Int))) with g1 | g1
  · have e : B.issE s = 3 := by unfold RefV.issE; rw [g1]; rfl
    rw [e]
    exact rshutN (n1 := (0, 1)) (n2 := (0, 2)) (n3 := (0, 3)) (post := []) (callOK_run 400 [hG 1 4 c1, hB 1 5 _ _ g1] (by kernel_rfl) (by kernel_rfl)) rfl rfl rfl rfl
  · have e : B.issE s = makeE B.self ((B.docs.length : Int) + 1) s B.n := by unfold RefV.issE; rw [g1]; rfl
    rw [e] at hm ⊢
    have c2 := rmake_no F ok (c := B.self) (r := (B.docs.length : Int) + 1) (n := B.n) hs hl ht hm
    have w1 : IntKind.i64.wrap ((B.docs.length : Int) + 1) = (B.docs.length : Int) + 1 := wr_i64 (by omega)
    have w2 : IntKind.u64.wrap ((B.docs.length : Int) + 1) = (B.docs.length : Int) + 1 := wr_u64 (by omega)
    have g2 : (!decide (makeE B.self ((B.docs.length : Int) + 1) s B.n = 0)) = true := by simpa using hm
    exact rshutN (n1 := (0, 1)) (n2 := (0, 2)) (n3 := (0, 3)) (post := []) (callOK_run 400 [hG 1 4 c1, hB 1 5 _ _ g1, hG 3 8 c1, hI 3 9 IntKind.i64 _ _ w1, hI 3 10 IntKind.u64 _ _ w2, hC 3 17 c2, hB 4 1 _ _ g2] (by kernel_rfl) (by kernel_rfl)) rfl rfl rfl rfl
theorem mine_len (x : Kid × OwnV) : (mineC x).length = 13 := rfl
theorem mine_one (x : Kid × OwnV) : ∀ u ∈ mineC x, u.oneCell' = true := fun u hu => by
  have : (mineC x).all (·.oneCell') = true := rfl
  exact List.all_eq_true.1 this u hu
theorem doc_len (p : DocV × DocA) : (docL p).length = 17 := rfl
theorem doc_one (p : DocV × DocA) : ∀ u ∈ docL p, u.oneCell' = true := fun u hu => by
  have : (docL p).all (·.oneCell') = true := rfl
  exact List.all_eq_true.1 this u hu
theorem rissue_ok (F : CF) {B : RefV} {s : SaleV} {A : SaleA} (ok : SaleOk s) (hs : 0 ≤ B.self ∧ B.self ≤ 255) (ho : B.owns.length ≤ 1000000) (hl : ∀ b v, Rd (F b v) A.la (cellsL encLeg s.legs)) (ht : ∀ b v, Rd (F b v) A.ta (cellsL encTax s.taxes)) (hm : B.issE s = 0) :
    CallOK Tryz.prog RIssueF [.ptr 0 0 0, .agg (saleX s A)] [((0, 9), .fam F)] (rfC (rdX B.docs) B) (.tup [.agg (docS (docMade B.nextT s) (.val (.slice A.la s.legs.length A.lc)) (.val (.slice A.ta s.taxes.length A.tc)) (.raw 1 0)), eN 0]) (rfC (rdX (B.issued s A).docs) (B.issued s A)) := by
  have c1 := len_rdX B.docs
  have g1 : decide ((32 : Int) ≤ (B.docs.length : Int)) = false := by
    cases h : decide ((32 : Int) ≤ (B.docs.length : Int)) with
    | false => rfl
    | true => unfold RefV.issE at hm; rw [h] at hm; cases hm
  have hm : makeE B.self ((B.docs.length : Int) + 1) s B.n = 0 := by unfold RefV.issE at hm; rw [g1] at hm; exact hm
  have c2 := rmake_ok F ok (c := B.self) (r := (B.docs.length : Int) + 1) (n := B.n) hs hl ht hm
  have hdl : B.docs.length < 32 := by have := of_decide_eq_false g1; omega
  have w1 : IntKind.i64.wrap ((B.docs.length : Int) + 1) = (B.docs.length : Int) + 1 := wr_i64 (by omega)
  have w2 : IntKind.u64.wrap ((B.docs.length : Int) + 1) = (B.docs.length : Int) + 1 := wr_u64 (by omega)
  have hck : checkE s B.n = 0 := by
    unfold makeE at hm
    split at hm
    · cases hm
    · exact hm
  obtain ⟨-, -, hsh, -⟩ := check_shape hck
  obtain ⟨hS, -, l1, l4, -, -⟩ := shape_share ok hsh
  have hvl : (shareV s.fare (wsOf s)).length = s.legs.length := by rw [shareV_len hS, ws_len]
  refine rshutN (n1 := (1, 4)) (n2 := (1, 5)) (n3 := (0, 3)) (post := []) (callOK_intro (by kernel_rfl) fun eb R => ?_) rfl rfl rfl rfl
  refine leaf_cut (rgK Tryz.prog RIssueF 6 []) [(0, .ptr 0 0 0), (3, .ptr 1 0 0), (4, .ptr 1 1 0), (6, .ptr 1 2 0)]
    ([((0, 9), .fam F)] ++ (rfS (rdX B.docs) B 0 ++ [((1, 0), .box none (saleX s A)), ((1, 1), .box none (docS doc0 nilS nilS nilS)), ((1, 2), .box none (docS (docMade B.nextT s) (.val (.slice A.la s.legs.length A.lc)) (.val (.slice A.ta s.taxes.length A.tc)) (.raw 1 3))), ((1, 3), i64R (shareV s.fare (wsOf s)).length (shareV s.fare (wsOf s)))]))
    calNone false 400 [hG 1 4 c1, hB 1 5 _ _ g1, hG 3 8 c1, hI 3 9 IntKind.i64 _ _ w1, hI 3 10 IntKind.u64 _ _ w2, hC 3 17 c2, .stop 6] calNone_ok (by kernel_rfl) ?_
  refine go_row (1, 3) 2 1 (shareV s.fare (wsOf s)).length ((shareV s.fare (wsOf s)).map (.int .i64)) (by kernel_rfl) fun va vc hva => ?_
  refine go_as [(0, .ptr 0 0 0), (3, .ptr 1 0 0), (4, .ptr 1 1 0), (6, .ptr 1 2 0)] ([((0, 9), .fam F)] ++ (rfS (rdX B.docs) B 0 ++ [((1, 0), .box none (saleX s A)), ((1, 1), .box none (docS doc0 nilS nilS nilS)), ((1, 2), .box none (docSA (docMade B.nextT s) ⟨A.la, A.lc, A.ta, A.tc, va, vc⟩)), ((1, 3), .fam fun _ _ => valsRow (docMade B.nextT s, ⟨A.la, A.lc, A.ta, A.tc, va, vc⟩))]))
    (by kernel_rfl) (by kernel_rfl) ?_
  refine go_open (X := { L : List (DocV × DocA) // L.map nrm = B.docs }) (fun x => [((0, 1), .fam fun _ v => rdQ x.1 0 v), ((1, 9), .fam fun _ _ => allC (x.1.map valsRow)), ((0, 9), .fam F), ((0, 0), .box none [.val (.int .u8 B.self), .val (.int .i64 B.n), .any 0 1, .any 0 2, .any 0 3]), ((0, 2), .fam (rownsF B.owns)), ((0, 3), .fam (rheldsF B.helds)), ((1, 0), .box none (saleX s A)), ((1, 1), .box none (docS doc0 nilS nilS nilS)), ((1, 2), .box none (docSA (docMade B.nextT s) ⟨A.la, A.lc, A.ta, A.tc, va, vc⟩)), ((0, 8), .fam fun _ _ => valsRow (docMade B.nextT s, ⟨A.la, A.lc, A.ta, A.tc, va, vc⟩))])
    (fun ε w hM => by
      have h1 := hM.front 2 rfl
      exact rd_open (b := 0) h1) (fun x => by kernel_rfl) ?_
  rintro ⟨L, hL⟩
  have hLl : L.length = B.docs.length := (List.length_map _).symm.trans (congrArg List.length hL)
  have q1 := q_app (P := Tryz.prog) (e := 0) (t := 77) (E := 67) (size := 17) (enc := docL) L (docMade B.nextT s, ⟨A.la, A.lc, A.ta, A.tc, va, vc⟩) (docSA (docMade B.nextT s) ⟨A.la, A.lc, A.ta, A.tc, va, vc⟩) (fun _ => rfl) (doc_one _) (doc_len _) Tryz.underlying77 (by kernel_rfl) (by omega)
  have q2 := q_put (P := Tryz.prog) (t := 77) (off := 2) (cs := [.val (.int .u8 B.self), .val (.int .i64 B.n), .any 0 1, .any 0 2, .any 0 3]) (cs' := [.val (.int .u8 B.self), .val (.int .i64 B.n), .any 0 9, .any 0 2, .any 0 3]) (E := 67) (size := 17) (enc := docL) (L ++ [(docMade B.nextT s, ⟨A.la, A.lc, A.ta, A.tc, va, vc⟩)]) (by kernel_rfl) (by show (2 + 1 : Nat) ≤ 5; omega) rfl rfl
  refine go_loop (X := { i : Nat // i ≤ s.legs.length }) 0 [] (fun x => ([(0, .ptr 0 0 0), (3, .ptr 1 0 0), (4, .ptr 1 1 0), (6, .ptr 1 2 0), (8, .val (.int .i64 (x.1 : Int)))],
      [((1, 4), .fam (rdQ (L ++ [(docMade B.nextT s, ⟨A.la, A.lc, A.ta, A.tc, va, vc⟩)]))), ((1, 9), .fam fun _ _ => allC (L.map valsRow)), ((0, 9), .fam F), ((0, 0), .box none [.val (.int .u8 B.self), .val (.int .i64 B.n), .any 1 4, .any 1 5, .any 0 3]), ((1, 5), .fam (rownsF (issR B.nextT s (shareV s.fare (wsOf s)) B.owns x.1))), ((0, 3), .fam (rheldsF B.helds)), ((1, 0), .box none (saleX s A)), ((1, 1), .box none (docS doc0 nilS nilS nilS)), ((1, 2), .box none (docSA (docMade B.nextT s) ⟨A.la, A.lc, A.ta, A.tc, va, vc⟩)), ((0, 8), .fam fun _ _ => valsRow (docMade B.nextT s, ⟨A.la, A.lc, A.ta, A.tc, va, vc⟩))]))
    (fun x => s.legs.length - x.1) ⟨0, Nat.zero_le _⟩ calNone false 400 [hG 6 7 q1, hG 6 10 q2] calNone_ok (by kernel_rfl) ?_
  rintro ⟨i, hi⟩ J hJ
  by_cases h : i < s.legs.length
  · have z0 : decide ((i : Int) < ((shareV s.fare (wsOf s)).length : Int)) = true := decide_eq_true (by omega)
    have hv : i < (shareV s.fare (wsOf s)).length := by omega
    have hR : ∀ b v, Rd ((fun (_ : Nat) (_ : Value) => valsRow (docMade B.nextT s, ⟨A.la, A.lc, A.ta, A.tc, va, vc⟩)) b v) va ((shareV s.fare (wsOf s)).map (.int .i64)) := fun _ _ => rd_row
    have q3 := idx_openG (P := Tryz.prog) (t := 65) (e := 2) (size := 1) (j := 8) (k := .i64) (cap := vc) (n := (shareV s.fare (wsOf s)).length) Tryz.underlying65 (by kernel_rfl) (by rw [List.length_map, Nat.mul_one]) hR hv
    have q4 := load_openG0 (P := Tryz.prog) (t := 2) (k := i * 1) (j := 8) (cs := [.val (.int .i64 ((shareV s.fare (wsOf s)).getD i 0))]) (u := .val (.int .i64 ((shareV s.fare (wsOf s)).getD i 0))) (by kernel_rfl) hR (fun ε q v hq => by
      cases q with
      | succ q => cases hq
      | zero =>
        cases hq
        show ((shareV s.fare (wsOf s)).map (Value.int .i64))[i * 1 + 0]? = _
        rw [Nat.mul_one, Nat.add_zero, List.getElem?_map, getD_some hv 0]; rfl) (by rw [List.length_map]; show 0 < (shareV s.fare (wsOf s)).length; omega)
    have q5 := idx_openG (P := Tryz.prog) (t := 61) (e := 31) (size := 3) (j := 9) (k := .i64) (cap := A.lc) (n := s.legs.length) Tryz.underlying61 (by kernel_rfl) (cellsL_len encLeg_len _) hl h
    have q6 := load_openG0 (P := Tryz.prog) (t := 31) (k := i * 3) (j := 9) (cs := legS' (s.legs.getD i leg0)) (u := .agg (legS' (s.legs.getD i leg0))) (by kernel_rfl) hl (legS_nth (getD_some h leg0)) (by rw [cellsL_len encLeg_len]; omega)
    have z1 : IntKind.u8.wrap (i : Int) = (i : Int) := wr_u8 (by omega)
    have z2 : IntKind.i64.wrap ((i : Int) + 1) = ((i + 1 : Nat) : Int) := by rw [wr_i64 (by omega)]; omega
    have q7 := q_app (P := Tryz.prog) (e := 0) (t := 78) (E := 85) (size := 13) (enc := mineC) (issR B.nextT s (shareV s.fare (wsOf s)) B.owns i) (⟨B.nextT, (i : Int)⟩, ownNew (s.legs.getD i leg0) ((shareV s.fare (wsOf s)).getD i 0)) (mineS (⟨B.nextT, (i : Int)⟩, ownNew (s.legs.getD i leg0) ((shareV s.fare (wsOf s)).getD i 0))) (fun _ => rfl) (mine_one _) (mine_len _) Tryz.underlying78 (by kernel_rfl) (by rw [issR_len]; omega)
    have q8 := q_put (P := Tryz.prog) (t := 78) (off := 3) (cs := [.val (.int .u8 B.self), .val (.int .i64 B.n), .any 0 1, .any 0 2, .any 0 3]) (cs' := [.val (.int .u8 B.self), .val (.int .i64 B.n), .any 0 1, .any 0 9, .any 0 3]) (E := 85) (size := 13) (enc := mineC) (issR B.nextT s (shareV s.fare (wsOf s)) B.owns (i + 1)) (by kernel_rfl) (by show (3 + 1 : Nat) ≤ 5; omega) rfl rfl
    have hJ' := hJ ⟨i + 1, h⟩ (by show _ - (i + 1) < _ - i; omega)
    clear hJ c1 c2 q1 q2
    exact leaf_next calNone false 400 [hB 8 4 _ _ z0, hI 10 8 IntKind.u8 _ _ z1, hG 10 13 q5, hG 10 14 q6, hG 10 18 q3, hG 10 19 q4, hG 10 24 q7, hG 10 27 q8, hI 9 1 IntKind.i64 _ _ z2] calNone_ok hJ' (by kernel_rfl)
  have he : i = (shareV s.fare (wsOf s)).length := by omega
  subst he
  have z0 : decide (((shareV s.fare (wsOf s)).length : Int) < ((shareV s.fare (wsOf s)).length : Int)) = false := decide_eq_false (by omega)
  clear hJ c1 c2 q1 q2
  refine leaf_cut (rgK Tryz.prog RIssueF 11 []) [(0, .ptr 0 0 0), (4, .ptr 1 1 0), (6, .ptr 1 2 0)]
      [((1, 4), .fam (rdQ (L ++ [(docMade B.nextT s, ⟨A.la, A.lc, A.ta, A.tc, va, vc⟩)]))), ((1, 9), .fam fun _ _ => allC (L.map valsRow)), ((0, 9), .fam F), ((0, 0), .box none [.val (.int .u8 B.self), .val (.int .i64 B.n), .any 1 4, .any 1 5, .any 0 3]), ((1, 5), .fam (rownsF (issR B.nextT s (shareV s.fare (wsOf s)) B.owns (shareV s.fare (wsOf s)).length))), ((0, 3), .fam (rheldsF B.helds)), ((1, 1), .box none (docS doc0 nilS nilS nilS)), ((1, 2), .box none (docSA (docMade B.nextT s) ⟨A.la, A.lc, A.ta, A.tc, va, vc⟩)), ((0, 8), .fam fun _ _ => valsRow (docMade B.nextT s, ⟨A.la, A.lc, A.ta, A.tc, va, vc⟩))]
      calNone false 400 [hB 8 4 _ _ z0, .stop 11] calNone_ok (by kernel_rfl) ?_
  refine go_open (X := Unit) (fun _ => [((1, 4), .fam (rdX (B.issued s A).docs)), ((0, 9), .fam F), ((0, 0), .box none [.val (.int .u8 B.self), .val (.int .i64 B.n), .any 1 4, .any 1 5, .any 0 3]), ((1, 5), .fam (rownsF (issR B.nextT s (shareV s.fare (wsOf s)) B.owns (shareV s.fare (wsOf s)).length))), ((0, 3), .fam (rheldsF B.helds)), ((1, 1), .box none (docS doc0 nilS nilS nilS)), ((1, 2), .box none (docSA (docMade B.nextT s) ⟨A.la, A.lc, A.ta, A.tc, va, vc⟩))])
    (fun ε w hM => by
      have h1 := hM.front 8 rfl
      have h2 := rd_more (b := (ε 1 4).1) (mem_perm (List.Perm.swap _ _ _) h1)
      rw [hL] at h2
      exact ⟨(), h2⟩) (fun _ => by kernel_rfl) ?_
  intro _
  refine go_raw 7 va (shareV s.fare (wsOf s)).length vc [(0, .ptr 0 0 0), (4, .ptr 1 1 0), (6, .ptr 1 2 0)] [((1, 4), .fam (rdX (B.issued s A).docs)), ((0, 9), .fam F), ((0, 0), .box none [.val (.int .u8 B.self), .val (.int .i64 B.n), .any 1 4, .any 1 5, .any 0 3]), ((1, 5), .fam (rownsF (issR B.nextT s (shareV s.fare (wsOf s)) B.owns (shareV s.fare (wsOf s)).length))), ((0, 3), .fam (rheldsF B.helds)), ((1, 1), .box none (docS doc0 nilS nilS nilS)), ((1, 2), .box none (docS (docMade B.nextT s) (.val (.slice A.la s.legs.length A.lc)) (.val (.slice A.ta s.taxes.length A.tc)) (.raw 1 7)))] (by kernel_rfl) (by kernel_rfl) (by kernel_rfl) (by kernel_rfl) (by kernel_rfl) (by kernel_rfl) ?_
  exact leaf_end calNone false 400 [] calNone_ok (by kernel_rfl)
end Go.Proofs.YtnkghdakjdhhdaaGreat
end
