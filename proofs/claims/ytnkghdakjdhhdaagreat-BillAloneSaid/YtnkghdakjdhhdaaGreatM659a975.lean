/- Sm1, Sm2. -/
import Derived.Test.YtnkghdakjdhhdaaGreatM506f9cf
import Derived.Test.YtnkghdakjdhhdaaGreatMf8d58ad
import Derived.ChangeKeysEq
set_option maxRecDepth 100000
set_option linter.unusedVariables false
set_option linter.unusedSimpArgs false
set_option linter.unusedSectionVars false
section
namespace Go.Proofs.YtnkghdakjdhhdaaGreat
open Go.RowKit Go.Lib Go.Tk Go.Shelf Go.Vc Go.Sx Go.Maps
def EqO : Nat := 71
theorem eqO_w (m : Nat) (L M : OwnsV) : CallOK Tryz.prog EqO [.val (.map (some m)), .map 0 7] [((0, 7), ownsF M)] [((0, 5), .fam fun _ _ => mapC kidK m (ents ownW L))] (.val (.bool (sameM L M))) [((0, 5), .fam fun _ _ => mapC kidK m (ents ownW L))] := by
  have l1 := len_val (K := kidK) (m := m) (j := 5) (n := L.length) (L := ents ownW L) (by simp [ents])
  have l2 := len_map (P := Tryz.prog) (K := kidK) (enc := ownW) M
  by_cases hl : L.length = M.length
  case neg =>
    rw [sameM_len hl]
    have q0 : (!decide ((L.length : Int) = (M.length : Int))) = true := by simp; omega
    exact callOK_run 400 [hG 1 1 l1, hG 1 3 l2, hB 1 4 _ _ q0] (by kernel_rfl) (by kernel_rfl)
  have q0 : (!decide ((L.length : Int) = (M.length : Int))) = false := by simp; omega
  refine callOK_intro (by kernel_rfl) fun eb R => ?_
  refine go_open (X := { u : Unit // (L.map (·.1)).Nodup ∧ ∀ p ∈ L, KidOk p.1 }) (fun _ => [((0, 5), .fam fun _ _ => mapC kidK m (ents ownW L)), ((0, 7), ownsF M)])
    (fun ε w hM => by
      have hM : Mem (mapT kidK ownW M (ε 0 7).1 (ε 0 7).2 :: mapC kidK m (ents ownW L) :: R) w := hM
      have h1 := hM.front 1 rfl
      exact ⟨⟨(), map_facts h1⟩, h1⟩) (fun _ => by kernel_rfl) ?_
  rintro ⟨-, hn, hok⟩
  have r1 := rangeG (P := Tryz.prog) (K := kidK) (t := OT) (m := m) (j := 5) (L := ents ownW L) Tryz.underlying118
  have d1 := next_doneG (P := Tryz.prog) (K := kidK) (m := m) (L := ents ownW L)
  refine go_loop (X := { x : OwnsV × OwnsV // L.Perm (x.1 ++ x.2) ∧ ∀ p ∈ x.1, lkt M p.1 = some p.2 }) 0 [] (fun x => ([(1, .map 0 7), (15, .ptr 1 9 0)],
      [((0, 7), ownsF M), ((1, 9), .fam fun r _ => rngC kidK r m (ents ownW L) (ents ownW x.1.2))]))
    (fun x => x.1.2.length) ⟨([], L), List.Perm.refl _, fun p hp => by cases hp⟩ calNone false 400 [hG 1 1 l1, hG 1 3 l2, hB 1 4 _ _ q0, hG 3 1 r1] calNone_ok (by kernel_rfl) ?_
  rintro ⟨⟨done, left⟩, hd, hdone⟩ J hJ
  have back : ∀ {left : OwnsV} (b : Bool), Go Tryz.prog EqO (.val (.bool b)) ([((0, 7), ownsF M)] ++ [((0, 5), .fam fun _ _ => mapC kidK m (ents ownW L))]) eb R .nrm (rgK Tryz.prog EqO (bif b then 9 else 8) [J]) [] [((0, 7), ownsF M), ((1, 9), .fam fun r _ => rngC kidK r m (ents ownW L) (ents ownW left))] := fun {left} b => by
    refine go_open (X := Unit) (fun _ => [((0, 7), ownsF M), ((0, 5), .fam fun _ _ => mapC kidK m (ents ownW L))]) (fun ε w hM => ⟨(), by
      have hM : Mem (mapT kidK ownW M (ε 0 7).1 (ε 0 7).2 :: rngC kidK (ε 1 9).1 m (ents ownW L) (ents ownW left) :: R) w := hM
      exact ((hM.front 1 rfl).weaken (c' := mapC kidK m (ents ownW L)) fun S hS => ⟨hS.2.1, hS.2.2.map⟩).front 1 rfl⟩) (fun _ => by kernel_rfl) fun _ => ?_
    cases b
    · exact leaf_end calNone false 400 [] calNone_ok (by kernel_rfl)
    · exact leaf_end calNone false 400 [] calNone_ok (by kernel_rfl)
  cases left with
  | cons x l =>
    have m1 := next_moreG (P := Tryz.prog) (K := kidK) (m := m) (L := ents ownW L) (left := ents ownW (x :: l)) (by simp [ents])
    refine leaf_cut (rgK Tryz.prog EqO 5 [J]) [(1, .map 0 7), (15, .ptr 1 9 0)]
      [((1, 9), .fam fun r _ => exC fun (y : (Kid × Value) × List (Kid × Value)) => curC kidK r m (ents ownW L) (ents ownW (x :: l)) y.1 y.2), ((0, 7), ownsF M)]
      calNone false 400 [hG 4 0 m1, .stop 5] calNone_ok (by kernel_rfl) ?_
    refine go_open (X := { y : (Kid × OwnV) × OwnsV // (x :: l).Perm (y.1 :: y.2) }) (fun y => [((1, 9), .fam fun r _ => curC kidK r m (ents ownW L) (ents ownW (x :: l)) (y.1.1.1, ownW y.1.1.2) (ents ownW y.1.2)), ((0, 7), ownsF M)])
      (fun ε w hM => cur_typed hM) (fun y => by kernel_rfl) ?_
    rintro ⟨⟨⟨k, o⟩, l'⟩, hp⟩
    have g1 := entryG (P := Tryz.prog) (K := kidK) (m := m) (L := ents ownW L) (left := ents ownW (x :: l)) (left' := ents ownW l') (p := (k, ownW o)) (ks := .agg (kidS k)) (vs := .agg (ownS o)) (fun _ => rfl) (fun _ => rfl)
    have hd' : L.Perm ((done ++ [(k, o)]) ++ l') := by
      rw [List.append_assoc]
      exact hd.trans (List.Perm.append_left done hp)
    have hlt : l'.length < (x :: l).length := by have := hp.length_eq; simp only [List.length_cons] at this ⊢; omega
    have hmem : (k, o) ∈ L := hd'.mem_iff.2 (by simp)
    have c1 := look_owns M (hok _ hmem)
    cases hk : lkt M k with
    | none =>
      rw [hk] at c1
      rw [sameM_bad hmem (by rw [hk]; simp)]
      exact leaf_cut (rgK Tryz.prog EqO 8 [J]) _ _ calNone false 400 [hG 5 0 g1, hG 6 2 c1, .stop 8] calNone_ok (by kernel_rfl) (back (left := l') false)
    | some o' =>
      rw [hk] at c1
      by_cases he : o = o'
      · subst he
        have e1 : (!ownEq o o) = false := by rw [(ownEq_iff o o).2 rfl]; rfl
        unfold ownEq cpnEq legEq at e1
        exact leaf_round (lpK Tryz.prog EqO 0 []) false 400 [hG 5 0 g1, hG 6 2 c1, hB 7 5 _ _ e1] (hJ ⟨(done ++ [(k, o)], l'), hd', fun p hp => by
          rcases List.mem_append.1 hp with hp | hp
          · exact hdone p hp
          · rw [List.mem_singleton.1 hp]; exact hk⟩ hlt) (by kernel_rfl)
      · rw [sameM_bad hmem (by rw [hk]; intro e; cases e; exact he rfl)]
        have e1 : (!ownEq o o') = true := by rw [ownEq_no he]; rfl
        unfold ownEq cpnEq legEq at e1
        exact leaf_cut (rgK Tryz.prog EqO 8 [J]) _ _ calNone false 400 [hG 5 0 g1, hG 6 2 c1, hB 7 5 _ _ e1, .stop 8] calNone_ok (by kernel_rfl) (back (left := l') false)
  | nil =>
    rw [List.append_nil] at hd
    rw [sameM_mk hl fun p hp => hdone p (hd.mem_iff.1 hp)]
    exact leaf_cut (rgK Tryz.prog EqO 9 []) _ _ calNone false 400 [hG 4 0 d1, .stop 9] calNone_ok (by kernel_rfl) (back (left := []) true)
def EqH : Nat := 72
theorem eqH_w (m : Nat) (L M : HeldsV) : CallOK Tryz.prog EqH [.val (.map (some m)), .map 0 7] [((0, 7), heldsF M)] [((0, 6), .fam fun _ _ => mapC kidK m (ents heldW L))] (.val (.bool (sameM L M))) [((0, 6), .fam fun _ _ => mapC kidK m (ents heldW L))] := by
  have l1 := len_val (K := kidK) (m := m) (j := 6) (n := L.length) (L := ents heldW L) (by simp [ents])
  have l2 := len_map (P := Tryz.prog) (K := kidK) (enc := heldW) M
  by_cases hl : L.length = M.length
  case neg =>
    rw [sameM_len hl]
    have q0 : (!decide ((L.length : Int) = (M.length : Int))) = true := by simp; omega
    exact callOK_run 400 [hG 1 1 l1, hG 1 3 l2, hB 1 4 _ _ q0] (by kernel_rfl) (by kernel_rfl)
  have q0 : (!decide ((L.length : Int) = (M.length : Int))) = false := by simp; omega
  refine callOK_intro (by kernel_rfl) fun eb R => ?_
  refine go_open (X := { u : Unit // (L.map (·.1)).Nodup ∧ ∀ p ∈ L, KidOk p.1 }) (fun _ => [((0, 6), .fam fun _ _ => mapC kidK m (ents heldW L)), ((0, 7), heldsF M)])
    (fun ε w hM => by
      have hM : Mem (mapT kidK heldW M (ε 0 7).1 (ε 0 7).2 :: mapC kidK m (ents heldW L) :: R) w := hM
      have h1 := hM.front 1 rfl
      exact ⟨⟨(), map_facts h1⟩, h1⟩) (fun _ => by kernel_rfl) ?_
  rintro ⟨-, hn, hok⟩
  have r1 := rangeG (P := Tryz.prog) (K := kidK) (t := HT) (m := m) (j := 6) (L := ents heldW L) Tryz.underlying119
  have d1 := next_doneG (P := Tryz.prog) (K := kidK) (m := m) (L := ents heldW L)
  refine go_loop (X := { x : HeldsV × HeldsV // L.Perm (x.1 ++ x.2) ∧ ∀ p ∈ x.1, lkt M p.1 = some p.2 }) 0 [] (fun x => ([(1, .map 0 7), (15, .ptr 1 9 0)],
      [((0, 7), heldsF M), ((1, 9), .fam fun r _ => rngC kidK r m (ents heldW L) (ents heldW x.1.2))]))
    (fun x => x.1.2.length) ⟨([], L), List.Perm.refl _, fun p hp => by cases hp⟩ calNone false 400 [hG 1 1 l1, hG 1 3 l2, hB 1 4 _ _ q0, hG 3 1 r1] calNone_ok (by kernel_rfl) ?_
  rintro ⟨⟨done, left⟩, hd, hdone⟩ J hJ
  have back : ∀ {left : HeldsV} (b : Bool), Go Tryz.prog EqH (.val (.bool b)) ([((0, 7), heldsF M)] ++ [((0, 6), .fam fun _ _ => mapC kidK m (ents heldW L))]) eb R .nrm (rgK Tryz.prog EqH (bif b then 9 else 8) [J]) [] [((0, 7), heldsF M), ((1, 9), .fam fun r _ => rngC kidK r m (ents heldW L) (ents heldW left))] := fun {left} b => by
    refine go_open (X := Unit) (fun _ => [((0, 7), heldsF M), ((0, 6), .fam fun _ _ => mapC kidK m (ents heldW L))]) (fun ε w hM => ⟨(), by
      have hM : Mem (mapT kidK heldW M (ε 0 7).1 (ε 0 7).2 :: rngC kidK (ε 1 9).1 m (ents heldW L) (ents heldW left) :: R) w := hM
      exact ((hM.front 1 rfl).weaken (c' := mapC kidK m (ents heldW L)) fun S hS => ⟨hS.2.1, hS.2.2.map⟩).front 1 rfl⟩) (fun _ => by kernel_rfl) fun _ => ?_
    cases b
    · exact leaf_end calNone false 400 [] calNone_ok (by kernel_rfl)
    · exact leaf_end calNone false 400 [] calNone_ok (by kernel_rfl)
  cases left with
  | cons x l =>
    have m1 := next_moreG (P := Tryz.prog) (K := kidK) (m := m) (L := ents heldW L) (left := ents heldW (x :: l)) (by simp [ents])
    refine leaf_cut (rgK Tryz.prog EqH 5 [J]) [(1, .map 0 7), (15, .ptr 1 9 0)]
      [((1, 9), .fam fun r _ => exC fun (y : (Kid × Value) × List (Kid × Value)) => curC kidK r m (ents heldW L) (ents heldW (x :: l)) y.1 y.2), ((0, 7), heldsF M)]
      calNone false 400 [hG 4 0 m1, .stop 5] calNone_ok (by kernel_rfl) ?_
    refine go_open (X := { y : (Kid × HeldV) × HeldsV // (x :: l).Perm (y.1 :: y.2) }) (fun y => [((1, 9), .fam fun r _ => curC kidK r m (ents heldW L) (ents heldW (x :: l)) (y.1.1.1, heldW y.1.1.2) (ents heldW y.1.2)), ((0, 7), heldsF M)])
      (fun ε w hM => cur_typed hM) (fun y => by kernel_rfl) ?_
    rintro ⟨⟨⟨k, o⟩, l'⟩, hp⟩
    have g1 := entryG (P := Tryz.prog) (K := kidK) (m := m) (L := ents heldW L) (left := ents heldW (x :: l)) (left' := ents heldW l') (p := (k, heldW o)) (ks := .agg (kidS k)) (vs := .agg (heldS o)) (fun _ => rfl) (fun _ => rfl)
    have hd' : L.Perm ((done ++ [(k, o)]) ++ l') := by
      rw [List.append_assoc]
      exact hd.trans (List.Perm.append_left done hp)
    have hlt : l'.length < (x :: l).length := by have := hp.length_eq; simp only [List.length_cons] at this ⊢; omega
    have hmem : (k, o) ∈ L := hd'.mem_iff.2 (by simp)
    have c1 := look_helds M (hok _ hmem)
    cases hk : lkt M k with
    | none =>
      rw [hk] at c1
      rw [sameM_bad hmem (by rw [hk]; simp)]
      exact leaf_cut (rgK Tryz.prog EqH 8 [J]) _ _ calNone false 400 [hG 5 0 g1, hG 6 2 c1, .stop 8] calNone_ok (by kernel_rfl) (back (left := l') false)
    | some o' =>
      rw [hk] at c1
      by_cases he : o = o'
      · subst he
        have e1 : (!heldEq o o) = false := by rw [(heldEq_iff o o).2 rfl]; rfl
        unfold heldEq cpnEq legEq at e1
        exact leaf_round (lpK Tryz.prog EqH 0 []) false 400 [hG 5 0 g1, hG 6 2 c1, hB 7 5 _ _ e1] (hJ ⟨(done ++ [(k, o)], l'), hd', fun p hp => by
          rcases List.mem_append.1 hp with hp | hp
          · exact hdone p hp
          · rw [List.mem_singleton.1 hp]; exact hk⟩ hlt) (by kernel_rfl)
      · rw [sameM_bad hmem (by rw [hk]; intro e; cases e; exact he rfl)]
        have e1 : (!heldEq o o') = true := by rw [heldEq_no he]; rfl
        unfold heldEq cpnEq legEq at e1
        exact leaf_cut (rgK Tryz.prog EqH 8 [J]) _ _ calNone false 400 [hG 5 0 g1, hG 6 2 c1, hB 7 5 _ _ e1, .stop 8] calNone_ok (by kernel_rfl) (back (left := l') false)
  | nil =>
    rw [List.append_nil] at hd
    rw [sameM_mk hl fun p hp => hdone p (hd.mem_iff.1 hp)]
    exact leaf_cut (rgK Tryz.prog EqH 9 []) _ _ calNone false 400 [hG 4 0 d1, .stop 9] calNone_ok (by kernel_rfl) (back (left := []) true)
end Go.Proofs.YtnkghdakjdhhdaaGreat
end
section
namespace Go.Proofs.YtnkghdakjdhhdaaGreat
open Go.RowKit Go.Lib Go.Tk Go.Shelf Go.Vc Go.Sx Go.Maps
def TSameF : Nat := 120
theorem tsame_w (F1 F2 : CF) {s o : SaleV} {A B : SaleA} (h1 : ∀ b v, Rd (F1 b v) A.la (cellsL encLeg s.legs)) (h2 : ∀ b v, Rd (F1 b v) A.ta (cellsL encTax s.taxes)) (h3 : ∀ b v, Rd (F2 b v) B.la (cellsL encLeg o.legs)) (h4 : ∀ b v, Rd (F2 b v) B.ta (cellsL encTax o.taxes))
    (n1 : A.la = none → A.lc = 0) (n2 : A.ta = none → A.tc = 0) (n3 : B.la = none → B.lc = 0) (n4 : B.ta = none → B.tc = 0) (ok1 : SaleOk s) (ok2 : SaleOk o) :
    CallOK Tryz.prog TSameF [.agg (salS s (.val (.slice A.la s.legs.length A.lc)) (.val (.slice A.ta s.taxes.length A.tc))), .agg (salS o (.val (.slice B.la o.legs.length B.lc)) (.val (.slice B.ta o.taxes.length B.tc)))] [((0, 11), .fam F1), ((0, 7), .fam F2)] [] (.val (.bool (decide (s = o)))) [] := by
  intro ε R w hM
  have hM : Mem (F1 (ε 0 11).1 (ε 0 11).2 :: F2 (ε 0 7).1 (ε 0 7).2 :: R) w := hM
  have hs : SaleAt w s A := ⟨(h1 _ _).row hM 0 rfl, (h2 _ _).row hM 0 rfl, n1, n2⟩
  have ho : SaleAt w o B := ⟨(h3 _ _).row hM 1 rfl, (h4 _ _).row hM 1 rfl, n3, n4⟩
  refine (same_any s o A B w hs ho ok1.nl ok2.nl ok1.nt ok2.nt).mono ?_
  rintro e w' ⟨rfl, hb⟩
  exact ⟨ε 1, rfl, by rw [eset_self]; exact hM.kept hb⟩
def EqIF : Nat := 121
theorem i64_nth {l : List Int} {i : Nat} (h : i < l.length) : ∀ (ε : Env) (q : Nat) (v : SV), ([.val (.int .i64 (l.getD i 0))] : List SV)[q]? = some v → (l.map (Value.int .i64))[i * 1 + q]? = some (v.den ε) := by
  intro ε q v hv
  cases q with
  | zero =>
    cases hv
    rw [Nat.mul_one, Nat.add_zero, List.getElem?_map, getD_some h 0]; rfl
  | succ q => cases hv
theorem eqI_w (F1 F2 : CF) {a1 a2 : Option Addr} {c1 c2 : Nat} {xs ys : List Int} (h1 : ∀ b v, Rd (F1 b v) a1 (xs.map (.int .i64))) (h2 : ∀ b v, Rd (F2 b v) a2 (ys.map (.int .i64))) (hl : xs.length ≤ 1073741824) :
    CallOK Tryz.prog EqIF [.val (.slice a1 xs.length c1), .val (.slice a2 ys.length c2)] [((0, 11), .fam F1), ((0, 7), .fam F2)] [] (.val (.bool (decide (xs = ys)))) [] := by
  by_cases hn : xs.length = ys.length
  case neg =>
    have q0 : (!decide ((xs.length : Int) = (ys.length : Int))) = true := by simp; omega
    rw [decide_eq_false (show ¬ xs = ys from fun e => hn (by rw [e]))]
    exact callOK_run 400 [hB 1 4 _ _ q0] (by kernel_rfl) (by kernel_rfl)
  have q0 : (!decide ((xs.length : Int) = (ys.length : Int))) = false := by simp; omega
  refine callOK_intro (by kernel_rfl) fun eb R => ?_
  refine go_loop (X := { i : Nat // i ≤ xs.length ∧ ∀ j, j < i → xs.getD j 0 = ys.getD j 0 }) 0 [] (fun x => ([(0, .val (.slice a1 xs.length c1)), (1, .val (.slice a2 ys.length c2)), (12, .val (.int .i64 (xs.length : Int))), (13, .val (.int .i64 (x.1 : Int)))], [((0, 11), .fam F1), ((0, 7), .fam F2)])) (fun x => xs.length - x.1) ⟨0, Nat.zero_le _, fun j hj => absurd hj (Nat.not_lt_zero _)⟩ calNone false 400 [hB 1 4 _ _ q0] calNone_ok (by kernel_rfl) ?_
  rintro ⟨i, hi, hd⟩ J hJ
  by_cases h : i < xs.length
  · have z0 : decide ((i : Int) < (xs.length : Int)) = true := decide_eq_true (by omega)
    have h' : i < ys.length := by omega
    have q1 := idx_openG (P := Tryz.prog) (t := 65) (e := 2) (size := 1) (j := 11) (k := .i64) (cap := c1) (n := xs.length) Tryz.underlying65 (by kernel_rfl) (by rw [List.length_map, Nat.mul_one]) h1 h
    have q2 := load_openG0 (P := Tryz.prog) (t := 2) (k := i * 1) (j := 11) (cs := [.val (.int .i64 (xs.getD i 0))]) (u := .val (.int .i64 (xs.getD i 0))) (by kernel_rfl) h1 (i64_nth h) (by rw [List.length_map]; omega)
    have q3 := idx_openG (P := Tryz.prog) (t := 65) (e := 2) (size := 1) (j := 7) (k := .i64) (cap := c2) (n := ys.length) Tryz.underlying65 (by kernel_rfl) (by rw [List.length_map, Nat.mul_one]) h2 h'
    have q4 := load_openG0 (P := Tryz.prog) (t := 2) (k := i * 1) (j := 7) (cs := [.val (.int .i64 (ys.getD i 0))]) (u := .val (.int .i64 (ys.getD i 0))) (by kernel_rfl) h2 (i64_nth h') (by rw [List.length_map]; omega)
    have q5 : IntKind.i64.wrap ((i : Int) + 1) = ((i + 1 : Nat) : Int) := by rw [wr_i64 (by omega)]; omega
    by_cases e : xs.getD i 0 = ys.getD i 0
    · have q6 : (!decide (xs.getD i 0 = ys.getD i 0)) = false := by rw [decide_eq_true e]; rfl
      have he := hid e
      clear e
      have hJ' := hJ ⟨i + 1, h, fun j hj => by
        by_cases q : j = i
        · subst q; exact he.out
        · exact hd j (by omega)⟩ (by show _ - (i + 1) < _ - i; omega)
      exact leaf_round (lpK Tryz.prog EqIF 0 []) false 400 [hB 4 0 _ _ z0, hG 6 2 q1, hG 6 3 q2, hG 6 6 q3, hG 6 7 q4, hB 6 8 _ _ q6, hI 8 0 IntKind.i64 _ _ q5] hJ' (by kernel_rfl)
    · have q6 : (!decide (xs.getD i 0 = ys.getD i 0)) = true := by rw [decide_eq_false e]; rfl
      rw [decide_eq_false (show ¬ xs = ys from fun e' => e (by rw [e']))]
      exact leaf_end calNone false 400 [hB 4 0 _ _ z0, hG 6 2 q1, hG 6 3 q2, hG 6 6 q3, hG 6 7 q4, hB 6 8 _ _ q6] calNone_ok (by kernel_rfl)
  · have z0 : decide ((i : Int) < (xs.length : Int)) = false := decide_eq_false (by omega)
    rw [decide_eq_true (show xs = ys from by
      refine List.ext_getElem hn fun j h3 h4 => ?_
      have := hd j (by omega)
      rw [List.getD_eq_getElem?_getD, List.getD_eq_getElem?_getD, List.getElem?_eq_getElem h3, List.getElem?_eq_getElem h4] at this
      exact this)]
    exact leaf_end calNone false 400 [hB 4 0 _ _ z0] calNone_ok (by kernel_rfl)
def isEqA (t : Nat) (o : Oper) : Bool := match o.op with
  | .binOp .eql t' _ _ _ => Nat.beq t' t
  | _ => false
def eqXY (o : Oper) : List Operand := match o.op with
  | .binOp .eql _ x y _ => [x, y]
  | _ => []
theorem run_items {P : Program} {w : World} {e : TypeId} {k : IntKind} (d : Nat) (he : P.underlying e = some (.int k)) (hp : P.plainKey e = true) (xs ys : List Int) : ∀ is : List Nat, (∀ i ∈ is, i < xs.length ∧ i < ys.length) →
    (Op.eqItems (d + 1) e 1 (xs.map (.int k)).toArray (ys.map (.int k)).toArray is).run P w = .ok (is.all fun i => xs.getD i 0 == ys.getD i 0) w
  | [], _ => by simp [Op.eqItems]
  | i :: is, h => by
    have ih := run_items (w := w) d he hp xs ys is fun j hj => h j (List.mem_cons_of_mem _ hj)
    obtain ⟨h1, h2⟩ := h i List.mem_cons_self
    have p1 : (part e (xs.map (Value.int k)).toArray (i * 1)).run P w = .ok (.int k (xs.getD i 0)) w := run_part_plain w hp (by rw [Nat.mul_one]; simp [h1])
    have p2 : (part e (ys.map (Value.int k)).toArray (i * 1)).run P w = .ok (.int k (ys.getD i 0)) w := run_part_plain w hp (by rw [Nat.mul_one]; simp [h2])
    have p3 := run_equalIn_int (P := P) w d e k k (xs.getD i 0) (ys.getD i 0) he
    simp only [Op.eqItems, Sem.run_bind, p1, p2, p3, Result.andThen_ok, List.all_cons]
    cases xs.getD i 0 == ys.getD i 0
    · simp
    · simpa using ih
def fiveL (d : DocV) : List Int := [d.credit, d.paid, d.back, d.kept, d.left]
def i64S (l : List Int) : List SV := l.map fun x => .val (.int .i64 x)
theorem i64S_den (l : List Int) (ε : Env) : SV.dens ε (i64S l) = l.map (.int .i64) := by
  induction l with
  | nil => rfl
  | cons x l ih => show _ :: SV.dens ε (i64S l) = _; rw [ih]; rfl
theorem eq5_w (d e : DocV) : OpG Tryz.prog (isEqA 196) eqXY [.agg (i64S (fiveL d)), .agg (i64S (fiveL e))] [] [] (.val (.bool (decide (fiveL d = fiveL e)))) [] := by
  intro o ho
  unfold isEqA at ho
  split at ho <;> try (cases ho; done)
  rename_i t' x y t2 hop
  have e1 := Nat.eq_of_beq_eq_true ho
  subst e1
  have hx' : eqXY o = [x, y] := by unfold eqXY; rw [hop]
  rw [hx']
  refine eq_agg hop (by kernel_rfl) (fun ε => by simp only [SV.den]; rw [i64S_den]) (fun ε => by simp only [SV.den]; rw [i64S_den]) fun w => ?_
  rw [show (10000 : Nat) = 9999 + 1 from rfl, run_equalIn_array (P := Tryz.prog) w 9999 (n := 5) (e := 2) _ _ Tryz.underlying196 (show Tryz.prog.info? 2 = some _ from rfl)]
  rw [show Tryz.prog.cellsOf 2 = 1 by kernel_rfl, run_items 9998 Tryz.underlying2 (by kernel_rfl) (fiveL d) (fiveL e) (List.range 5) (fun i hi => by rw [List.mem_range] at hi; exact ⟨hi, hi⟩)]
  congr 1
  rw [Bool.eq_iff_iff, decide_eq_true_eq, List.all_eq_true]
  constructor
  · intro h
    refine List.ext_getElem rfl fun i h1 h2 => ?_
    have := h i (List.mem_range.2 h1)
    rw [List.getD_eq_getElem?_getD, List.getD_eq_getElem?_getD, List.getElem?_eq_getElem h1, List.getElem?_eq_getElem h2] at this
    simpa using this
  · intro h i _
    rw [h]; simp
end Go.Proofs.YtnkghdakjdhhdaaGreat
end
