/- Rf11, Rf12. -/
import Derived.Test.YtnkghdakjdhhdaaGreatMba8616d
set_option maxRecDepth 100000
set_option linter.unusedVariables false
set_option linter.unusedSimpArgs false
set_option linter.unusedSectionVars false
section
namespace Go.Proofs.YtnkghdakjdhhdaaGreat
open Go.RowKit Go.Lib Go.Tk Go.Shelf Go.Vc Go.Sx
theorem rIx_cases {α : Type} (l : List (Kid × α)) (k : Kid) : (rIx l k = -1 ∧ ∀ p ∈ l, p.1 ≠ k) ∨ ∃ (i : Nat) (z : α), rIx l k = (i : Int) ∧ l[i]? = some (k, z) ∧ ∀ (j : Nat) (p : Kid × α), j < i → l[j]? = some p → p.1 ≠ k := by
  unfold rIx
  cases h : l.findIdx? (fun p => rkEq p.1 k) with
  | none =>
    left
    rw [List.findIdx?_eq_none_iff] at h
    exact ⟨rfl, fun p hp e => by have := h p hp; rw [(rkEq_iff _ _).2 e] at this; cases this⟩
  | some i =>
    right
    rw [List.findIdx?_eq_some_iff_getElem] at h
    obtain ⟨hi, h1, h2⟩ := h
    have e1 := (rkEq_iff _ _).1 h1
    refine ⟨i, l[i].2, rfl, by rw [List.getElem?_eq_getElem hi]; exact congrArg some (Prod.ext e1 rfl), fun j p hj hp e => ?_⟩
    have hjl : j < l.length := by omega
    rw [List.getElem?_eq_getElem hjl] at hp
    cases hp
    exact h2 j hj ((rkEq_iff _ _).2 e)
theorem rheld_store (l : List (Kid × HeldV)) {i : Nat} {k : Kid} {o o' : HeldV} (h : l[i]? = some (k, o)) : (over (cellsL otherC l).toArray (i * 13 + 3) (heldL o')).toList = cellsL otherC (l.set i (k, o')) :=
  over_cells (enc := otherC) (size := 13) (x := (k, o')) (y := (k, o)) (j := 3) (us := heldL o') (fun _ => rfl) (by show (3 + 10 : Nat) ≤ 13; omega) (by rw [over_list]; rfl) l h
def insIx (l : List (Kid × HeldV)) (k : Kid) : Nat := l.findIdx (fun p => !aheadB p.1 k)
theorem insIx_le (l : List (Kid × HeldV)) (k : Kid) : insIx l k ≤ l.length := List.findIdx_le_length
theorem insIx_at {l : List (Kid × HeldV)} {k : Kid} {i : Nat} (hi : i ≤ l.length) (h1 : ∀ j, j < i → aheadB (l.getD j other0).1 k = true) (h2 : i < l.length → aheadB (l.getD i other0).1 k = false) : insIx l k = i := by
  have e1 : ∀ (j : Nat) (h : j < l.length), l[j] = l.getD j other0 := fun j h => by rw [List.getD_eq_getElem?_getD, List.getElem?_eq_getElem h]; rfl
  rcases Nat.lt_or_ge i l.length with h | h
  · unfold insIx
    rw [List.findIdx_eq h]
    refine ⟨by rw [e1 i h, h2 h]; rfl, fun j hj => by rw [e1 j (by omega), h1 j hj]; rfl⟩
  · have : i = l.length := by omega
    subst this
    unfold insIx
    rw [List.findIdx_eq_length]
    intro x hx
    obtain ⟨j, hj, rfl⟩ := List.mem_iff_getElem.1 hx
    rw [e1 j hj, h1 j hj]; rfl
def insH (l : List (Kid × HeldV)) (k : Kid) (h : HeldV) : List (Kid × HeldV) := (l.take (insIx l k) ++ [(k, h)]) ++ l.drop (insIx l k)
def RefV.badK (B : RefV) (k : Kid) : Bool := decide (k.t.c = B.self) || (!ticketB k.t.c k.t.r B.n || decide (4 ≤ k.i))
def RefV.setHE (B : RefV) (k : Kid) : Int := bif B.badK k then 1 else bif decide (0 ≤ rIx B.helds k) then 0 else bif decide ((64 : Int) ≤ (B.helds.length : Int)) then 3 else 0
def RefV.setH (B : RefV) (k : Kid) (h : HeldV) : RefV := bif B.badK k then B else bif decide (0 ≤ rIx B.helds k) then { B with helds := B.helds.set (rIx B.helds k).toNat (k, h) } else bif decide ((64 : Int) ≤ (B.helds.length : Int)) then B else { B with helds := insH B.helds k h }
def RSetHeldF : Nat := 29
theorem kidOtherL (x : Kid × HeldV) : (otherC x).length = 13 := rfl
theorem other_one (x : Kid × HeldV) : ∀ u ∈ otherC x, u.oneCell' = true := fun u hu => by
  have : (otherC x).all (·.oneCell') = true := rfl
  exact List.all_eq_true.1 this u hu
theorem rset_end (D : CF) {eb : Env} {R : List Chunk} (B : RefV) (k : Kid) (h : HeldV) {i : Nat} (hi : i ≤ B.helds.length) (hn : B.helds.length < 64) (e : insIx B.helds k = i) :
    Go Tryz.prog RSetHeldF (eN 0) ([] ++ rfN D { B with helds := insH B.helds k h } (0, 1) (0, 2) (1, 0)) eb R .nrm (rgK Tryz.prog RSetHeldF 12 []) [(0, .ptr 0 0 0), (4, .ptr 1 0 0), (5, .ptr 1 1 0), (7, .val (.int .i64 (i : Int)))] (rfS D B 0 ++ [((1, 0), .box none (kidS k)), ((1, 1), .box none (heldS h))]) := by
  have q1 := q_drop (P := Tryz.prog) (t := 79) (k := .i64) (i := i) (E := 148) (size := 13) (enc := otherC) B.helds (by kernel_rfl) hi
  have q2 := q_copy (P := Tryz.prog) (t := 79) (i := i) (E := 148) (size := 13) (enc := otherC) B.helds kidOtherL other_one Tryz.underlying79 (by kernel_rfl) hi (by omega)
  have q3 := q_take (P := Tryz.prog) (t := 79) (k := .i64) (i := i) (E := 148) (size := 13) (enc := otherC) B.helds (by kernel_rfl) hi
  have q4 := q_cut (P := Tryz.prog) (t := 79) (i := i) (E := 148) (size := 13) (enc := otherC) B.helds (k, h) (otherS (k, h)) (fun _ => rfl) (other_one _) kidOtherL Tryz.underlying79 (by kernel_rfl) hi (by omega)
  have q5 := q_cat (P := Tryz.prog) (t := 79) (E := 148) (size := 13) (enc := otherC) (B.helds.take i ++ [(k, h)]) (B.helds.drop i) kidOtherL other_one Tryz.underlying79 (by kernel_rfl) (by rw [List.length_append, List.length_take, List.length_drop, List.length_singleton]; omega)
  have q6 := q_put (P := Tryz.prog) (t := 79) (off := 4) (cs := [.val (.int .u8 B.self), .val (.int .i64 B.n), .any 0 1, .any 0 2, .any 0 3]) (cs' := [.val (.int .u8 B.self), .val (.int .i64 B.n), .any 0 1, .any 0 2, .any 0 9]) (E := 148) (size := 13) (enc := otherC) ((B.helds.take i ++ [(k, h)]) ++ B.helds.drop i) (by kernel_rfl) (by show (4 + 1 : Nat) ≤ 5; omega) rfl rfl
  unfold insH
  rw [e]
  clear hi hn e
  exact leaf_end calNone false 400 [hG 12 5 q1, hG 12 6 q2, hG 13 6 q3, hG 13 11 q4, hG 13 13 q5, hG 13 16 q6] calNone_ok (by kernel_rfl)
theorem rset_ins (D : CF) {eb : Env} {R : List Chunk} (B : RefV) (k : Kid) (h : HeldV) (hn : B.helds.length < 64) :
    Go Tryz.prog RSetHeldF (eN 0) ([] ++ rfN D { B with helds := insH B.helds k h } (0, 1) (0, 2) (1, 0)) eb R .nrm (rgK Tryz.prog RSetHeldF 9 []) [(0, .ptr 0 0 0), (4, .ptr 1 0 0), (5, .ptr 1 1 0)] (rfS D B 0 ++ [((1, 0), .box none (kidS k)), ((1, 1), .box none (heldS h))]) := by
  have ql := q_len (P := Tryz.prog) (E := 148) (size := 13) (enc := otherC) B.helds
  refine go_loop (X := { i : Nat // i ≤ B.helds.length ∧ ∀ j, j < i → aheadB (B.helds.getD j other0).1 k = true }) 0 [] (fun y => ([(0, .ptr 0 0 0), (4, .ptr 1 0 0), (5, .ptr 1 1 0), (7, .val (.int .i64 (y.1 : Int)))], rfS D B 0 ++ [((1, 0), .box none (kidS k)), ((1, 1), .box none (heldS h))])) (fun y => B.helds.length - y.1) ⟨0, Nat.zero_le _, fun j hj => by omega⟩ calNone false 400 [] calNone_ok (by kernel_rfl) ?_
  rintro ⟨i, hi, hp⟩ J hJ
  have fin := fun e => rset_end D (eb := eb) (R := R) B k h (i := i) hi hn e
  by_cases hl : i < B.helds.length
  · have z0 : decide ((i : Int) < (B.helds.length : Int)) = true := decide_eq_true (by omega)
    have q1 := q_idx (P := Tryz.prog) (t := 79) (i := i) (k := .i64) (E := 148) (size := 13) (enc := otherC) B.helds (fun _ => rfl) (by decide) (by kernel_rfl) hl
    have q2 := q_load (P := Tryz.prog) (t := 27) (b := i * 13) (j := 0) (cs := otherS (B.helds.getD i other0)) (u := .agg (kidS (B.helds.getD i other0).1)) (E := 148) (size := 13) (enc := otherC) B.helds (by kernel_rfl) (otherS_nth hl)
    have z9 : IntKind.i64.wrap ((i : Int) + 1) = ((i + 1 : Nat) : Int) := by rw [wr_i64 (by omega)]; omega
    have c1 := ahead_w (B.helds.getD i other0).1 k
    have fin := fun (hg : aheadB (B.helds.getD i other0).1 k = false) => fin (insIx_at hi hp fun _ => hg)
    have hJ' : aheadB (B.helds.getD i other0).1 k = true → ∀ ε a' w, Rel (ntOf Tryz.prog RSetHeldF) 1 eb R ⟨[(0, .ptr 0 0 0), (4, .ptr 1 0 0), (5, .ptr 1 1 0), (7, .val (.int .i64 ((i + 1 : Nat) : Int)))], rfS D B 0 ++ [((1, 0), .box none (kidS k)), ((1, 1), .box none (heldS h))], 2⟩ ε a' w → J a' w := fun hg => hJ ⟨i + 1, hl, fun j hj => by
      rcases Nat.lt_or_ge j i with hj' | hj'
      · exact hp j hj'
      · have : j = i := by omega
        subst this; exact hg⟩ (by show _ - (i + 1) < _ - i; omega)
    show Go Tryz.prog RSetHeldF _ ([] ++ rfN D { B with helds := insH B.helds k h } (0, 1) (0, 2) (1, 0)) eb R .nrm (.code (lpB Tryz.prog RSetHeldF 0 []) :: .lp J :: lpK Tryz.prog RSetHeldF 0 []) [(0, .ptr 0 0 0), (4, .ptr 1 0 0), (5, .ptr 1 1 0), (7, .val (.int .i64 (i : Int)))] (rfS D B 0 ++ [((1, 0), .box none (kidS k)), ((1, 1), .box none (heldS h))])
    clear hJ hp
    generalize insH B.helds k h = nw at *
    generalize B.helds.getD i other0 = x at *
    rcases Bool.eq_false_or_eq_true (aheadB x.1 k) with e | e
    · have hJ' := hJ' e
      rw [e] at c1
      clear fin
      exact leaf_round (lpK Tryz.prog RSetHeldF 0 []) false 400 [hG 10 5 ql, hB 10 6 _ _ z0, hG 10 13 q1, hG 10 15 q2, hC 10 17 c1, hI 11 1 IntKind.i64 _ _ z9] hJ' (by kernel_rfl)
    · have fin := fin e
      rw [e] at c1
      clear hJ'
      exact leaf_cut (rgK Tryz.prog RSetHeldF 12 []) _ _ calNone false 400 [hG 10 5 ql, hB 10 6 _ _ z0, hG 10 13 q1, hG 10 15 q2, hC 10 17 c1, .stop 12] calNone_ok (by kernel_rfl) fin
  · have z0 : decide ((i : Int) < (B.helds.length : Int)) = false := decide_eq_false (by omega)
    have fin := fin (insIx_at hi hp fun h => absurd h hl)
    show Go Tryz.prog RSetHeldF _ ([] ++ rfN D { B with helds := insH B.helds k h } (0, 1) (0, 2) (1, 0)) eb R .nrm (.code (lpB Tryz.prog RSetHeldF 0 []) :: .lp J :: lpK Tryz.prog RSetHeldF 0 []) [(0, .ptr 0 0 0), (4, .ptr 1 0 0), (5, .ptr 1 1 0), (7, .val (.int .i64 (i : Int)))] (rfS D B 0 ++ [((1, 0), .box none (kidS k)), ((1, 1), .box none (heldS h))])
    clear hJ hp
    exact leaf_cut (rgK Tryz.prog RSetHeldF 12 []) _ _ calNone false 400 [hG 10 5 ql, hB 10 6 _ _ z0, .stop 12] calNone_ok (by kernel_rfl) fin
theorem rsetHeld_w (D : CF) (B : RefV) {k : Kid} (hk : KidOk k) (h : HeldV) (hn : B.helds.length ≤ 64) :
    CallOK Tryz.prog RSetHeldF [.ptr 0 0 0, .agg (kidS k), .agg (heldS h)] [] (rfC D B) (eN (B.setHE k)) (rfC D (B.setH k h)) := by
  have c1 := rticket_w (c := k.t.c) (r := k.t.r) (n := B.n) hk.1.1
  have c2 := rheld_w D B k (by omega)
  unfold RefV.setHE RefV.setH RefV.badK
  rcases Bool.eq_false_or_eq_true (decide (k.t.c = B.self)) with g1 | g1
  · rw [g1]
    exact rshutN (n1 := (0, 1)) (n2 := (0, 2)) (n3 := (0, 3)) (rd := []) (post := []) (callOK_run 400 [hB 1 7 _ _ g1] (by kernel_rfl) (by kernel_rfl)) rfl rfl rfl rfl
  rcases Bool.eq_false_or_eq_true (ticketB k.t.c k.t.r B.n) with g2 | g2 <;> rw [g2] at c1
  case inr =>
    rw [g1, g2]
    exact rshutN (n1 := (0, 1)) (n2 := (0, 2)) (n3 := (0, 3)) (rd := []) (post := []) (callOK_run 400 [hB 1 7 _ _ g1, hC 1 15 c1] (by kernel_rfl) (by kernel_rfl)) rfl rfl rfl rfl
  rcases Bool.eq_false_or_eq_true (decide (4 ≤ k.i)) with g3 | g3
  · rw [g1, g2, g3]
    exact rshutN (n1 := (0, 1)) (n2 := (0, 2)) (n3 := (0, 3)) (rd := []) (post := []) (callOK_run 400 [hB 1 7 _ _ g1, hC 1 15 c1, hB 1 21 _ _ g3] (by kernel_rfl) (by kernel_rfl)) rfl rfl rfl rfl
  rw [g1, g2, g3]
  simp only [Bool.not_true, Bool.or_false, cond_false]
  rcases rIx_cases B.helds k with ⟨e, -⟩ | ⟨i, z, e, hz, -⟩ <;> rw [e] at c2 ⊢
  · rw [show decide ((0 : Int) ≤ -1) = false by decide]
    simp only [cond_false]
    rcases Bool.eq_false_or_eq_true (decide ((64 : Int) ≤ (B.helds.length : Int))) with g4 | g4
    · have ql := q_len (P := Tryz.prog) (E := 148) (size := 13) (enc := otherC) B.helds
      rw [g4]
      simp only [cond_true]
      exact rshutN (n1 := (0, 1)) (n2 := (0, 2)) (n3 := (0, 3)) (rd := []) (post := []) (callOK_run 400 [hB 1 7 _ _ g1, hC 1 15 c1, hB 1 21 _ _ g3, hC 3 2 c2, hG 7 4 ql, hB 7 5 _ _ g4] (by kernel_rfl) (by kernel_rfl)) rfl rfl rfl rfl
    · have ql := q_len (P := Tryz.prog) (E := 148) (size := 13) (enc := otherC) B.helds
      rw [g4]
      simp only [cond_false]
      refine rshutN (n1 := (0, 1)) (n2 := (0, 2)) (n3 := (1, 0)) (rd := []) (post := []) (callOK_intro (by kernel_rfl) fun eb R => ?_) rfl rfl rfl rfl
      have fin := rset_ins D (eb := eb) (R := R) B k h (by have := of_decide_eq_false g4; omega)
      generalize insH B.helds k h = nw at *
      exact leaf_cut (rgK Tryz.prog RSetHeldF 9 []) _ _ calNone false 400 [hB 1 7 _ _ g1, hC 1 15 c1, hB 1 21 _ _ g3, hC 3 2 c2, hG 7 4 ql, hB 7 5 _ _ g4, .stop 9] calNone_ok (by kernel_rfl) fin
  · have hil := (List.getElem?_eq_some_iff.1 hz).1
    have z0 : decide ((0 : Int) ≤ (i : Int)) = true := decide_eq_true (by omega)
    rw [z0, Int.toNat_natCast]
    simp only [cond_true]
    have q1 := q_idx (P := Tryz.prog) (t := 79) (i := i) (k := .i64) (E := 148) (size := 13) (enc := otherC) B.helds (fun _ => rfl) (by decide) (by kernel_rfl) hil
    have q2 := q_store (P := Tryz.prog) (t := 69) (b := i * 13) (j := 3) (cs := heldS h) (us := heldL h) (E := 148) (size := 13) (enc := otherC) B.helds (B.helds.set i (k, h)) (by kernel_rfl) (fun _ => rfl) rfl (by rw [cellsL_len kidOtherL]; omega) (by rw [cellsL_len kidOtherL]; show i * 13 + 3 + 10 ≤ _; omega) (List.length_set ..) (rheld_store _ hz)
    exact rshutN (n1 := (0, 1)) (n2 := (0, 2)) (n3 := (0, 3)) (rd := []) (post := []) (callOK_run 400 [hB 1 7 _ _ g1, hC 1 15 c1, hB 1 21 _ _ g3, hC 3 2 c2, hG 5 6 q1, hG 5 8 q2] (by kernel_rfl) (by kernel_rfl)) rfl rfl rfl rfl
end Go.Proofs.YtnkghdakjdhhdaaGreat
end
section
namespace Go.Sx
open Go.RowKit Go.Lib Go.Tk Go.Shelf Go.Vc
theorem lkS_knS {s k : Nat} {v : Value} {d : Nat} {u : SV} : ∀ {sl : Slots}, lkS sl d = some u → lkS (knSl (s, k) v sl) d = some (u.kn s k v)
  | [], h => by cases h
  | (d', x) :: sl, h => by
    unfold lkS at h
    unfold knSl
    rw [List.map_cons]
    unfold lkS
    cases hb : Nat.beq d' d with
    | true => rw [hb] at h; cases h; rfl
    | false => rw [hb] at h; exact lkS_knS h
theorem go_raw {P : Program} {f : Nat} {ret : SV} {rp : Heap} {eb : Env} {R : List Chunk} {e : Ex} {K : List It} {sl : Slots} {H : Heap} (k : Nat) (a : Option Addr) (m c : Nat) (sl' : Slots) (H' : Heap) (h1 : sl = knSl (1, k) (.slice a m c) sl') (h2 : H = knH (1, k) (.slice a m c) H')
    (h3 : sl.all (fun x => x.2.ok (isNm k)) = true) (h4 : hok (isNm k) H = true) (h5 : sl'.all (fun x => x.2.ok (ltB 2)) = true) (h6 : hok (ltB 2) H' = true) (h : Go P f ret rp eb R e K sl' H') : Go P f ret rp eb R e K sl H := by
  intro ε a' w hr
  subst h1; subst h2
  have key : ∀ s j, isNm k s j = true → ε s j = eset ε 1 (fun j => bif Nat.beq j k then (0, Value.slice a m c) else ε 1 j) s j := fun s j hs => by
    by_cases h0 : s = 1
    · subst h0
      rw [eset_at]
      cases hb : Nat.beq j k with
      | false => rfl
      | true => unfold isNm at hs; rw [hb] at hs; cases hs
    · rw [eset_ne h0]
  have ek : asSl (eset ε 1 (fun j => bif Nat.beq j k then (0, Value.slice a m c) else ε 1 j) (1, k).1 (1, k).2).2 = .slice a m c := by
    show asSl (eset ε 1 _ 1 k).2 = _
    rw [eset_at, Nat.beq_refl]; rfl
  have en : names (knH (1, k) (.slice a m c) H') = names H' := by unfold names knH; rw [List.map_map]; rfl
  refine h (eset ε 1 fun j => bif Nat.beq j k then (0, Value.slice a m c) else ε 1 j) a' w ⟨hr.size, hr.defers, ?_, ?_, ?_, h6, ?_, hr.pos⟩
  · intro d v hv
    have hm := lkS_mem hv
    refine ⟨?_, List.all_eq_true.1 h5 _ hm⟩
    have hv2 : lkS (knSl (1, k) (.slice a m c) sl') d = some (v.kn 1 k (.slice a m c)) := lkS_knS hv
    have h7 := hr.slots d _ hv2
    rw [h7.1]
    have hok : (v.kn 1 k (.slice a m c)).ok (isNm k) = true := List.all_eq_true.1 h3 _ (lkS_mem hv2)
    rw [SV.den_congr key _ hok, SV.kn_den ek]
  · have h7 := hr.mem
    rw [hden_congr key h4] at h7
    have e1 : hden (eset ε 1 fun j => bif Nat.beq j k then (0, Value.slice a m c) else ε 1 j) (knH (1, k) (.slice a m c) H') = hden (eset ε 1 fun j => bif Nat.beq j k then (0, Value.slice a m c) else ε 1 j) H' := by
      unfold hden knH
      rw [List.map_map]
      exact List.map_congr_left fun x _ => SC.kn_den ek x.1 x.2
    rw [e1] at h7
    exact h7
  · rw [← en]; exact hr.nd
  · intro t ht
    rw [eset_ne (by omega)]
    exact hr.e0 t ht
end Go.Sx
namespace Go.Proofs.YtnkghdakjdhhdaaGreat
open Go.RowKit Go.Lib Go.Tk Go.Shelf Go.Vc Go.Sx
def valsRow (p : DocV × DocA) : Chunk := rowC 2 1 (.slice p.2.va p.1.vals.length p.2.vc) p.1.vals.length (p.1.vals.map (.int .i64))
def nrm (p : DocV × DocA) : DocV × SaleA := (p.1, ⟨p.2.la, p.2.lc, p.2.ta, p.2.tc⟩)
def rdQ (L : List (DocV × DocA)) : CF := qF 67 17 docL L
def rdX (l : List (DocV × SaleA)) : CF := fun _ v => exC fun (x : { L : List (DocV × DocA) // L.map nrm = l }) => allC (rdQ x.1 0 v :: x.1.map valsRow)
theorem rd_open {l : List (DocV × SaleA)} {b : Nat} {v : Value} {R : List Chunk} {w : World} (h : Mem (rdX l b v :: R) w) : ∃ x : { L : List (DocV × DocA) // L.map nrm = l }, Mem (rdQ x.1 0 v :: allC (x.1.map valsRow) :: R) w := by
  obtain ⟨x, h1⟩ := h.ex
  have h2 : Mem ((rdQ x.1 0 v :: x.1.map valsRow) ++ R) w := h1.all
  refine ⟨x, ?_⟩
  have h3 : Mem (x.1.map valsRow ++ (rdQ x.1 0 v :: R)) w := mem_perm List.perm_middle.symm h2
  exact mem_perm (List.Perm.swap _ _ _) h3.in_all
theorem rd_shut {L : List (DocV × DocA)} {b : Nat} {v : Value} {R : List Chunk} {w : World} (h : Mem (rdQ L 0 v :: allC (L.map valsRow) :: R) w) : Mem (rdX (L.map nrm) b v :: R) w := by
  have h1 := (mem_perm (List.Perm.swap _ _ _) h).all
  have h2 : Mem ((rdQ L 0 v :: L.map valsRow) ++ R) w := mem_perm List.perm_middle h1
  exact Mem.in_ex (f := fun (x : { M : List (DocV × DocA) // M.map nrm = L.map nrm }) => allC (rdQ x.1 0 v :: x.1.map valsRow)) ⟨L, rfl⟩ h2.in_all
theorem rd_more {L : List (DocV × DocA)} {p : DocV × DocA} {b : Nat} {v : Value} {R : List Chunk} {w : World} (h : Mem (rdQ (L ++ [p]) 0 v :: valsRow p :: allC (L.map valsRow) :: R) w) : Mem (rdX (L.map nrm ++ [nrm p]) b v :: R) w := by
  have h1 : Mem (allC (L.map valsRow) :: rdQ (L ++ [p]) 0 v :: valsRow p :: R) w := mem_perm ((List.Perm.swap _ _ _).cons _ |>.trans (List.Perm.swap _ _ _)) h
  have h2 : Mem (L.map valsRow ++ (rdQ (L ++ [p]) 0 v :: valsRow p :: R)) w := h1.all
  have h3 : Mem ((L ++ [p]).map valsRow ++ (rdQ (L ++ [p]) 0 v :: R)) w := by
    rw [List.map_append, List.append_assoc]
    exact mem_perm (List.Perm.append_left _ (List.Perm.swap _ _ _)) h2
  have h4 := rd_shut (b := b) (mem_perm (List.Perm.swap _ _ _) h3.in_all)
  rw [List.map_append] at h4
  exact h4
theorem len_rdX (l : List (DocV × SaleA)) : OpG Tryz.prog (isLenS Tryz.prog) lenX [.any 0 0] [((0, 0), .fam fun _ v => rdX l 0 v)] [] (.val (.int .i64 (l.length : Int))) [] := by
  intro o ho
  refine ⟨(q_len (P := Tryz.prog) (E := 67) (size := 17) (enc := docL) [] o ho).1, fun ε ρ R w hx hM => ?_⟩
  have hM : Mem (rdX l 0 (ε 0 0).2 :: R) w := hM
  obtain ⟨y, hM'⟩ := rd_open hM
  have := (q_len (P := Tryz.prog) (E := 67) (size := 17) (enc := docL) y.1 o ho).2 ε ρ (allC (y.1.map valsRow) :: R) w hx hM'
  have hl : y.1.length = l.length := (List.length_map _).symm.trans (congrArg List.length y.2)
  rw [hl] at this
  refine res_mono (fun u w' ⟨x, h1, h2⟩ => ⟨x, h1, ?_⟩) this
  have h2 : Mem (rdQ y.1 0 (eset ε 1 x 0 0).2 :: allC (y.1.map valsRow) :: R) w' := h2
  have h3 := rd_shut (b := 0) h2
  rw [y.2] at h3
  exact h3
def refNew (self n : Int) : RefV := ⟨self, n, [], [], []⟩
theorem rnew_c {self n : Int} (hs : 0 ≤ self ∧ self < n) (h1 : 2 ≤ n) (h2 : n ≤ 8) : CallOK Tryz.prog RNewF [.val (.int .u8 self), .val (.int .i64 n)] [] [] (.ptr 1 0 0) [((1, 0), .fam (refF (rdX []) (refNew self n)))] :=
  (rnew_ok hs h1 h2).post_mono fun ε R w hM => by
    have hM : Mem (boxE none (ε 1 0).1 #[.int .u8 self, .int .i64 n, .slice none 0 0, .slice none 0 0, .slice none 0 0] :: R) w := hM
    have h3 := mem_noQ (mem_noQ (mem_noQ hM 67 17) 85 13) 148 13
    have h5 : Mem (rdQ [] 0 (.slice none 0 0) :: qcC 148 13 (.slice none 0 0) 0 [] :: qcC 85 13 (.slice none 0 0) 0 [] :: boxE none (ε 1 0).1 #[.int .u8 self, .int .i64 n, .slice none 0 0, .slice none 0 0, .slice none 0 0] :: R) w := h3.front 2 rfl
    have h6 : Mem (allC ([] : List Chunk) :: rdQ [] 0 (.slice none 0 0) :: qcC 148 13 (.slice none 0 0) 0 [] :: qcC 85 13 (.slice none 0 0) 0 [] :: boxE none (ε 1 0).1 #[.int .u8 self, .int .i64 n, .slice none 0 0, .slice none 0 0, .slice none 0 0] :: R) w := Mem.in_all (l := []) h5
    have h7 := rd_shut (L := []) (b := 0) (mem_perm (List.Perm.swap _ _ _) h6)
    have h8 : Mem ([boxE none (ε 1 0).1 #[.int .u8 self, .int .i64 n, .slice none 0 0, .slice none 0 0, .slice none 0 0], rdX [] 0 (.slice none 0 0), rownsF [] 0 (.slice none 0 0), rheldsF [] 0 (.slice none 0 0)] ++ R) w := by
      exact mem_perm (List.Perm.append_right R ((List.Perm.swap (rownsF [] 0 (.slice none 0 0)) (rheldsF [] 0 (.slice none 0 0)) [boxE none (ε 1 0).1 #[.int .u8 self, .int .i64 n, .slice none 0 0, .slice none 0 0, .slice none 0 0]]).cons (rdX [] 0 (.slice none 0 0)) |>.trans (List.perm_append_comm (l₁ := [rdX [] 0 (.slice none 0 0), rownsF [] 0 (.slice none 0 0), rheldsF [] 0 (.slice none 0 0)]) (l₂ := [boxE none (ε 1 0).1 #[.int .u8 self, .int .i64 n, .slice none 0 0, .slice none 0 0, .slice none 0 0]])))) h7
    exact Mem.in_ex (⟨.slice none 0 0, .slice none 0 0, .slice none 0 0⟩ : RfA) h8.in_all
end Go.Proofs.YtnkghdakjdhhdaaGreat
end
