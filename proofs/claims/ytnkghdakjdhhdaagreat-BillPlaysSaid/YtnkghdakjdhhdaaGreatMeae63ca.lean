/- Rf15, Rf16. -/
import Derived.Test.YtnkghdakjdhhdaaGreatMcaf8710
import Derived.Test.YtnkghdakjdhhdaaGreatM3981284
import Derived.Test.YtnkghdakjdhhdaaGreatM0eb1c47
import Derived.Test.YtnkghdakjdhhdaaGreatM242dd63
set_option maxRecDepth 100000
set_option linter.unusedVariables false
set_option linter.unusedSimpArgs false
set_option linter.unusedSectionVars false
section
namespace Go.Sx
open Go.RowKit Go.Lib Go.Tk Go.Shelf Go.Vc
theorem q_store1 {P : Program} {α : Type} {E size : Nat} {enc : α → List Value} {t b j : Nat} {u : Value} (l l' : List α) (ht : (P.info? t).map (·.size) = some 1) (hc : u.cells = #[u]) (h1 : u.oneCell' = true)
    (hl : b + j + 1 ≤ (cellsL enc l).length) (hn : l'.length = l.length) (hov : (over (cellsL enc l).toArray (b + j) [u]).toList = cellsL enc l') :
    OpG P (isSto t) stoXY [.elt 0 0 0 b j, .val u] [] [((0, 0), .fam (qF E size enc l))] (.val undef) [((0, 0), .fam (qF E size enc l'))] := by
  intro o ho
  unfold isSto at ho
  split at ho <;> try (cases ho; done)
  rename_i t' x y hop
  have e1 := Nat.eq_of_beq_eq_true ho
  subst e1
  have hx' : stoXY o = [x, y] := by unfold stoXY; rw [hop]
  rw [hx']
  refine ⟨fun z hz => by rw [hop]; simp [Op.operands]; simpa using hz, fun ε ρ R w hx hM => ?_⟩
  simp only [List.map_cons, List.map_nil, SV.dens, SV.den, List.cons.injEq, and_true] at hx
  have hM : Mem (qcC E size (ε 0 0).2 l.length (cellsL enc l) :: R) w := hM
  obtain ⟨w', hr, hm⟩ := Mem.storeQ (P := P) hM 0 rfl t (b + j) u [u] hc ht hl (by simp [h1]) (by omega)
  refine res_st (x_store hop (hx.1.trans (by simp [Nat.add_assoc])) hx.2 hr) ⟨fun _ => (0, undef), by simp only [SV.den], ?_⟩
  rw [hov] at hm
  have e0 : eset ε 1 (fun _ => (0, undef)) 0 0 = ε 0 0 := by rw [eset_ne (by decide)]
  show Mem (qcC E size (eset ε 1 (fun _ => (0, undef)) 0 0).2 l'.length (cellsL enc l') :: R) w'
  rw [e0, hn]
  exact hm
end Go.Sx
namespace Go.Proofs.YtnkghdakjdhhdaaGreat
open Go.RowKit Go.Lib Go.Tk Go.Shelf Go.Vc Go.Sx
theorem mine_len' (x : Kid × OwnV) : (mineC x).length = 13 := rfl
theorem oidx (l : List (Kid × OwnV)) {i : Nat} (h : i < l.length) : OpG Tryz.prog (isIdx 78) idxXY [.any 0 0, .val (.int .i64 (i : Int))] [((0, 0), .fam (qF 85 13 mineC l))] [] (.elt 0 0 0 (i * 13) 0) [] :=
  q_idx l (fun _ => rfl) (by decide) (by kernel_rfl) h
theorem oload (l : List (Kid × OwnV)) {i : Nat} {x : Kid × OwnV} (h : l[i]? = some x) {t j : Nat} {u : SV} (hu : Go.Sx.partAt Tryz.prog t (mineS x) j = some u) : OpG Tryz.prog (isLoad t) loadX [.elt 0 0 0 (i * 13) j] [((0, 0), .fam (qF 85 13 mineC l))] [] u [] :=
  q_load l hu (cells_nth (enc := mineC) (encS := mineS) (fun _ _ => rfl) (fun _ => rfl) h)
theorem ostore1 (l : List (Kid × OwnV)) {i : Nat} {x : Kid × OwnV} (h : l[i]? = some x) (x' : Kid × OwnV) {t j : Nat} {u : Value} (ht : (Tryz.prog.info? t).map (·.size) = some 1) (hc : u.cells = #[u]) (h1 : u.oneCell' = true) (hj : j < 13) (hx : (over (mineC x).toArray j [u]).toList = mineC x') :
    OpG Tryz.prog (isSto t) stoXY [.elt 0 0 0 (i * 13) j, .val u] [] [((0, 0), .fam (qF 85 13 mineC l))] (.val undef) [((0, 0), .fam (qF 85 13 mineC (l.set i x')))] := by
  have hil := (List.getElem?_eq_some_iff.1 h).1
  exact q_store1 l (l.set i x') ht hc h1 (by rw [cellsL_len mine_len']; omega) (List.length_set ..) (over_cells (enc := mineC) (size := 13) (x := x') (y := x) (j := j) (us := [u]) (fun _ => rfl) (by show j + 1 ≤ 13; omega) hx l h)
theorem hidx (l : List (Kid × HeldV)) {i : Nat} (h : i < l.length) : OpG Tryz.prog (isIdx 79) idxXY [.any 0 0, .val (.int .i64 (i : Int))] [((0, 0), .fam (qF 148 13 otherC l))] [] (.elt 0 0 0 (i * 13) 0) [] :=
  q_idx l (fun _ => rfl) (by decide) (by kernel_rfl) h
theorem hload (l : List (Kid × HeldV)) {i : Nat} {x : Kid × HeldV} (h : l[i]? = some x) {t j : Nat} {u : SV} (hu : Go.Sx.partAt Tryz.prog t (otherS x) j = some u) : OpG Tryz.prog (isLoad t) loadX [.elt 0 0 0 (i * 13) j] [((0, 0), .fam (qF 148 13 otherC l))] [] u [] :=
  q_load l hu (cells_nth (enc := otherC) (encS := otherS) (fun _ _ => rfl) (fun _ => rfl) h)
theorem hstore1 (l : List (Kid × HeldV)) {i : Nat} {x : Kid × HeldV} (h : l[i]? = some x) (x' : Kid × HeldV) {t j : Nat} {u : Value} (ht : (Tryz.prog.info? t).map (·.size) = some 1) (hc : u.cells = #[u]) (h1 : u.oneCell' = true) (hj : j < 13) (hx : (over (otherC x).toArray j [u]).toList = otherC x') :
    OpG Tryz.prog (isSto t) stoXY [.elt 0 0 0 (i * 13) j, .val u] [] [((0, 0), .fam (qF 148 13 otherC l))] (.val undef) [((0, 0), .fam (qF 148 13 otherC (l.set i x')))] := by
  have hil := (List.getElem?_eq_some_iff.1 h).1
  exact q_store1 l (l.set i x') ht hc h1 (by rw [cellsL_len kidOtherL]; omega) (List.length_set ..) (over_cells (enc := otherC) (size := 13) (x := x') (y := x) (j := j) (us := [u]) (fun _ => rfl) (by show j + 1 ≤ 13; omega) hx l h)
theorem rIx_lkt {α : Type} (l : List (Kid × α)) (k : Kid) : (rIx l k = -1 ∧ lkt l k = none) ∨ ∃ (i : Nat) (z : α), rIx l k = (i : Int) ∧ l[i]? = some (k, z) ∧ lkt l k = some z := by
  rcases rIx_cases l k with ⟨h1, h2⟩ | ⟨i, z, h1, h2, h3⟩
  · exact .inl ⟨h1, lkt_none.2 fun h => by obtain ⟨p, hp, e⟩ := List.mem_map.1 h; exact h2 p hp e⟩
  · refine .inr ⟨i, z, h1, h2, ?_⟩
    clear h1
    induction l generalizing i with
    | nil => cases h2
    | cons p l ih =>
      unfold lkt
      cases i with
      | zero => cases h2; rw [if_pos rfl]
      | succ i =>
        rw [if_neg (h3 0 p (Nat.succ_pos i) rfl)]
        exact ih i h2 fun j q hj hq => h3 (j + 1) q (Nat.succ_lt_succ hj) hq
theorem lkt_set {α : Type} {l : List (Kid × α)} {i : Nat} {k : Kid} {z : α} (h : l[i]? = some (k, z)) (hf : ∀ (j : Nat) (p : Kid × α), j < i → l[j]? = some p → p.1 ≠ k) (z' : α) (k' : Kid) : lkt (l.set i (k, z')) k' = if k = k' then some z' else lkt l k' := by
  induction l generalizing i with
  | nil => cases h
  | cons p l ih =>
    cases i with
    | zero =>
      cases h
      show (if k = k' then some z' else lkt l k') = if k = k' then some z' else (if k = k' then some z else lkt l k')
      by_cases q : k = k'
      · simp [q]
      · simp [q]
    | succ i =>
      have ih := ih (i := i) h fun j q hj hq => hf (j + 1) q (Nat.succ_lt_succ hj) hq
      have h0 := hf 0 p (Nat.succ_pos i) rfl
      show (if p.1 = k' then some p.2 else lkt (l.set i (k, z')) k') = if k = k' then some z' else (if p.1 = k' then some p.2 else lkt l k')
      rw [ih]
      by_cases q : k = k'
      · subst q; simp [h0]
      · simp [q]
def RefV.stO (R : RefV) (k : Kid) (o : OwnV) : RefV := { R with owns := R.owns.set (rIx R.owns k).toNat (k, o) }
def RefV.stH (R : RefV) (k : Kid) (h : HeldV) : RefV := { R with helds := R.helds.set (rIx R.helds k).toNat (k, h) }
theorem stO_at {R : RefV} {k : Kid} {i : Nat} (h : rIx R.owns k = (i : Int)) (o : OwnV) : R.stO k o = { R with owns := R.owns.set i (k, o) } := by unfold RefV.stO; rw [h]; rfl
theorem stH_at {R : RefV} {k : Kid} {i : Nat} (h : rIx R.helds k = (i : Int)) (o : HeldV) : R.stH k o = { R with helds := R.helds.set i (k, o) } := by unfold RefV.stH; rw [h]; rfl
structure RR where
  out : List OutV
  e : Int
  r : RefV
def RtoldF : Nat := 100
theorem rtold_w (c : Int) (m : MsV) : CallOK Tryz.prog RtoldF [.val (.int .u8 c), .agg (msS m)] [] [] (.raw 1 0) [((1, 0), outsR [⟨c, m⟩])] := callOK_run 400 [] (by kernel_rfl) (by kernel_rfl)
def RNextF : Nat := 99
theorem rnext_w (s c : Int) : CallOK Tryz.prog RNextF [.val (.int .u8 s), .val (.int .u8 c)] [] [] (.tup [.val (.int .u8 (nextI s c).1), eN (nextI s c).2]) [] := callOK_pure fun ε w => (rnext_any s c w).mono fun e w' ⟨h1, h2⟩ => ⟨h1, by subst h2; exact Below.refl _ _⟩
def ruseOwn (R : RefV) (k : Kid) (cmd : Int) : RR :=
  let o := (lkt R.owns k).getD own0
  bif !(lkt R.owns k).isSome then ⟨[], 4, R⟩
  else bif o.away || !decide (o.k.l.c = R.self) then ⟨[], 160, R⟩
  else bif !decide ((nextI o.k.s cmd).2 = 0) then ⟨[], (nextI o.k.s cmd).2, R⟩
  else ⟨[], 0, R.stO k (usedO o (nextI o.k.s cmd).1)⟩
def ruseHeld (R : RefV) (k : Kid) (cmd : Int) : RR :=
  let h := (lkt R.helds k).getD held0
  bif !(lkt R.helds k).isSome then ⟨[], 4, R⟩
  else bif !h.here then ⟨[], 160, R⟩
  else bif !decide ((nextI h.k.s cmd).2 = 0) then ⟨[], (nextI h.k.s cmd).2, R⟩
  else ⟨bif decide ((nextI h.k.s cmd).1 = 4) then [billO k h.k.v] else [], 0, R.stH k (usedH h (nextI h.k.s cmd).1)⟩
def ruseQ (R : RefV) (k : Kid) (cmd : Int) : RR :=
  bif !useB cmd then ⟨[], 1, R⟩ else bif decide (k.t.c = R.self) then ruseOwn R k cmd else ruseHeld R k cmd
def RUseF : Nat := 40
theorem useB_n {cmd : Int} (h : useB cmd = false) : (!decide (cmd = 9)) = true ∧ (!decide (cmd = 10)) = true ∧ (!decide (cmd = 11)) = true ∧ (!decide (cmd = 12)) = true := by
  obtain ⟨h1, h2, h3, h4⟩ := use_no h
  rw [h1, h2, h3, h4]; exact ⟨rfl, rfl, rfl, rfl⟩
theorem ruse_own (D : CF) {R : RefV} {k : Kid} {eb : Env} {R0 : List Chunk} (hn : R.owns.length ≤ 1000000) (cmd : Int) (hc : decide (k.t.c = R.self) = true) :
    Go Tryz.prog RUseF (.tup [.raw 1 0, eN (ruseOwn R k cmd).e]) ([] ++ (rfN D (ruseOwn R k cmd).r (0, 1) (0, 2) (0, 3) ++ [((1, 0), outsR (ruseOwn R k cmd).out)])) eb R0 .nrm (rgK Tryz.prog RUseF 3 []) [(0, .ptr 0 0 0), (2, .val (.int .u8 cmd)), (4, .ptr 1 0 0)] (rfS D R 0 ++ [((1, 0), .box none (kidS k))]) := by
  have c1 := rown_w D R k (by omega)
  unfold ruseOwn
  rcases rIx_lkt R.owns k with ⟨e, hl⟩ | ⟨i, o, e, hi, hl⟩ <;> rw [e] at c1 <;> rw [hl]
  · exact leaf_end calNone false 400 [hB 3 7 _ _ hc, hC 4 2 c1] calNone_ok (by kernel_rfl)
  simp only [Option.isSome_some, Option.getD_some, Bool.not_true, cond_false]
  have hil := (List.getElem?_eq_some_iff.1 hi).1
  have z0 : decide ((i : Int) < 0) = false := decide_eq_false (by omega)
  have q0 := oidx R.owns hil
  have q1 := oload R.owns hi (t := 4) (j := 9) (u := .val (.bool o.away)) (by kernel_rfl)
  have q2 := oload R.owns hi (t := 5) (j := 3) (u := .val (.int .u8 o.k.l.c)) (by kernel_rfl)
  have q3 := oload R.owns hi (t := 32) (j := 7) (u := .val (.int .u8 o.k.s)) (by kernel_rfl)
  have c2 := rnext_w o.k.s cmd
  rw [stO_at e]
  rcases Bool.eq_false_or_eq_true o.away with g1 | g1
  · rw [g1]
    exact leaf_end calNone false 400 [hB 3 7 _ _ hc, hC 4 2 c1, hG 7 5 q0, hG 8 3 q1, hB 8 3 _ _ g1] calNone_ok (by kernel_rfl)
  rcases Bool.eq_false_or_eq_true (!decide (o.k.l.c = R.self)) with g2 | g2
  · rw [g1, g2]
    exact leaf_end calNone false 400 [hB 3 7 _ _ hc, hC 4 2 c1, hG 7 5 q0, hG 8 3 q1, hB 8 3 _ _ g1, hG 8 10 q2, hB 8 15 _ _ g2] calNone_ok (by kernel_rfl)
  rw [g1, g2]
  simp only [Bool.or_self, cond_false]
  obtain ⟨n1, n2, hnx⟩ : ∃ n1 n2, nextI o.k.s cmd = (n1, n2) := ⟨_, _, rfl⟩
  simp only [hnx] at c2 ⊢
  clear hnx
  rcases Bool.eq_false_or_eq_true (!decide (n2 = 0)) with g3 | g3
  · rw [g3]
    exact leaf_end calNone false 400 [hB 3 7 _ _ hc, hC 4 2 c1, hG 7 5 q0, hG 8 3 q1, hB 8 3 _ _ g1, hG 8 10 q2, hB 8 15 _ _ g2, hG 10 4 q3, hC 10 6 c2, hB 11 1 _ _ g3] calNone_ok (by kernel_rfl)
  rw [g3]
  simp only [cond_false]
  have hi2 : (R.owns.set i (k, usedP o n1 o.paid))[i]? = some (k, usedP o n1 o.paid) := by rw [List.getElem?_set_self hil]
  have q4 := ostore1 R.owns hi (k, usedP o n1 o.paid) (t := 32) (j := 7) (u := .int .u8 n1) (by kernel_rfl) rfl rfl (by decide) (by rw [over_list]; rfl)
  have q5 := ostore1 (R.owns.set i (k, usedP o n1 o.paid)) hi2 (k, usedP o n1 true) (t := 4) (j := 11) (u := .bool true) (by kernel_rfl) rfl rfl (by decide) (by rw [over_list]; rfl)
  rw [List.set_set] at q5
  unfold usedO
  rcases Bool.eq_false_or_eq_true (decide (n1 = 4)) with g4 | g4
  · rw [g4, Bool.or_true]
    exact leaf_end calNone false 400 [hB 3 7 _ _ hc, hC 4 2 c1, hG 7 5 q0, hG 8 3 q1, hB 8 3 _ _ g1, hG 8 10 q2, hB 8 15 _ _ g2, hG 10 4 q3, hC 10 6 c2, hB 11 1 _ _ g3, hG 13 5 q4, hB 14 1 _ _ g4, hG 15 3 q5] calNone_ok (by kernel_rfl)
  · rw [g4, Bool.or_false]
    exact leaf_end calNone false 400 [hB 3 7 _ _ hc, hC 4 2 c1, hG 7 5 q0, hG 8 3 q1, hB 8 3 _ _ g1, hG 8 10 q2, hB 8 15 _ _ g2, hG 10 4 q3, hC 10 6 c2, hB 11 1 _ _ g3, hG 13 5 q4, hB 14 1 _ _ g4] calNone_ok (by kernel_rfl)
theorem ruse_held (D : CF) {R : RefV} {k : Kid} {eb : Env} {R0 : List Chunk} (hn : R.helds.length ≤ 1000000) (cmd : Int) (hc : decide (k.t.c = R.self) = false) :
    Go Tryz.prog RUseF (.tup [.raw 1 0, eN (ruseHeld R k cmd).e]) ([] ++ (rfN D (ruseHeld R k cmd).r (0, 1) (0, 2) (0, 3) ++ [((1, 0), outsR (ruseHeld R k cmd).out)])) eb R0 .nrm (rgK Tryz.prog RUseF 3 []) [(0, .ptr 0 0 0), (2, .val (.int .u8 cmd)), (4, .ptr 1 0 0)] (rfS D R 0 ++ [((1, 0), .box none (kidS k))]) := by
  have c1 := rheld_w D R k (by omega)
  unfold ruseHeld
  rcases rIx_lkt R.helds k with ⟨e, hl⟩ | ⟨i, o, e, hi, hl⟩ <;> rw [e] at c1 <;> rw [hl]
  · exact leaf_end calNone false 400 [hB 3 7 _ _ hc, hC 17 2 c1] calNone_ok (by kernel_rfl)
  simp only [Option.isSome_some, Option.getD_some, Bool.not_true, cond_false]
  have hil := (List.getElem?_eq_some_iff.1 hi).1
  have z0 : decide ((i : Int) < 0) = false := decide_eq_false (by omega)
  have q0 := hidx R.helds hil
  have q1 := hload R.helds hi (t := 4) (j := 9) (u := .val (.bool o.here)) (by kernel_rfl)
  have q3 := hload R.helds hi (t := 32) (j := 7) (u := .val (.int .u8 o.k.s)) (by kernel_rfl)
  have c2 := rnext_w o.k.s cmd
  rw [stH_at e]
  rcases Bool.eq_false_or_eq_true (!o.here) with g1 | g1
  · rw [g1]
    exact leaf_end calNone false 400 [hB 3 7 _ _ hc, hC 17 2 c1, hG 20 5 q0, hG 21 3 q1, hB 21 4 _ _ g1] calNone_ok (by kernel_rfl)
  rw [g1]
  simp only [cond_false]
  obtain ⟨n1, n2, hnx⟩ : ∃ n1 n2, nextI o.k.s cmd = (n1, n2) := ⟨_, _, rfl⟩
  simp only [hnx] at c2 ⊢
  clear hnx
  rcases Bool.eq_false_or_eq_true (!decide (n2 = 0)) with g3 | g3
  · rw [g3]
    exact leaf_end calNone false 400 [hB 3 7 _ _ hc, hC 17 2 c1, hG 20 5 q0, hG 21 3 q1, hB 21 4 _ _ g1, hG 23 4 q3, hC 23 6 c2, hB 24 1 _ _ g3] calNone_ok (by kernel_rfl)
  rw [g3]
  simp only [cond_false]
  have hi2 : (R.helds.set i (k, usedHP o n1 o.billed))[i]? = some (k, usedHP o n1 o.billed) := by rw [List.getElem?_set_self hil]
  have hi3 : (R.helds.set i (k, usedHP o n1 true))[i]? = some (k, usedHP o n1 true) := by rw [List.getElem?_set_self hil]
  have q4 := hstore1 R.helds hi (k, usedHP o n1 o.billed) (t := 32) (j := 7) (u := .int .u8 n1) (by kernel_rfl) rfl rfl (by decide) (by rw [over_list]; rfl)
  have q5 := hstore1 (R.helds.set i (k, usedHP o n1 o.billed)) hi2 (k, usedHP o n1 true) (t := 4) (j := 12) (u := .bool true) (by kernel_rfl) rfl rfl (by decide) (by rw [over_list]; rfl)
  rw [List.set_set] at q5
  have q6 := hload (R.helds.set i (k, usedHP o n1 true)) hi3 (t := 2) (j := 6) (u := .val (.int .i64 o.k.v)) (by kernel_rfl)
  have c3 := rtold_w k.t.c ⟨6, k, cpn0, o.k.v, 0⟩
  unfold usedH
  rcases Bool.eq_false_or_eq_true (decide (n1 = 4)) with g4 | g4
  · rw [g4, Bool.or_true]
    have g4' : (!decide (n1 = 4)) = false := by rw [g4]; rfl
    exact leaf_end calNone false 400 [hB 3 7 _ _ hc, hC 17 2 c1, hG 20 5 q0, hG 21 3 q1, hB 21 4 _ _ g1, hG 23 4 q3, hC 23 6 c2, hB 24 1 _ _ g3, hG 26 5 q4, hB 27 1 _ _ g4', hG 29 3 q5, hG 30 8 q6, hC 30 10 c3] calNone_ok (by kernel_rfl)
  · rw [g4, Bool.or_false]
    have g4' : (!decide (n1 = 4)) = true := by rw [g4]; rfl
    exact leaf_end calNone false 400 [hB 3 7 _ _ hc, hC 17 2 c1, hG 20 5 q0, hG 21 3 q1, hB 21 4 _ _ g1, hG 23 4 q3, hC 23 6 c2, hB 24 1 _ _ g3, hG 26 5 q4, hB 27 1 _ _ g4'] calNone_ok (by kernel_rfl)
theorem ruse_w (D : CF) {R : RefV} (k : Kid) (hn : R.owns.length ≤ 1000000) (hm : R.helds.length ≤ 1000000) (cmd : Int) :
    CallOK Tryz.prog RUseF [.ptr 0 0 0, .agg (kidS k), .val (.int .u8 cmd)] [] (rfC D R) (.tup [.raw 1 0, eN (ruseQ R k cmd).e]) (rfC D (ruseQ R k cmd).r ++ [((1, 0), outsC (ruseQ R k cmd).out)]) := by
  refine rshutN (n1 := (0, 1)) (n2 := (0, 2)) (n3 := (0, 3)) (rd := []) (outs_of (callOK_intro (by kernel_rfl) fun eb R0 => ?_)) rfl rfl rfl rfl
  unfold ruseQ
  rcases Bool.eq_false_or_eq_true (useB cmd) with g | g
  · have key : Go Tryz.prog RUseF (.tup [.raw 1 0, eN (bif decide (k.t.c = R.self) then ruseOwn R k cmd else ruseHeld R k cmd).e]) ([] ++ (rfN D (bif decide (k.t.c = R.self) then ruseOwn R k cmd else ruseHeld R k cmd).r (0, 1) (0, 2) (0, 3) ++ [((1, 0), outsR (bif decide (k.t.c = R.self) then ruseOwn R k cmd else ruseHeld R k cmd).out)])) eb R0 .nrm (rgK Tryz.prog RUseF 3 []) [(0, .ptr 0 0 0), (2, .val (.int .u8 cmd)), (4, .ptr 1 0 0)] (rfS D R 0 ++ [((1, 0), .box none (kidS k))]) := by
      rcases Bool.eq_false_or_eq_true (decide (k.t.c = R.self)) with h | h
      · have := ruse_own D (k := k) (eb := eb) (R0 := R0) hn cmd h
        rw [h]; exact this
      · have := ruse_held D (k := k) (eb := eb) (R0 := R0) hm cmd h
        rw [h]; exact this
    rw [g]
    simp only [Bool.not_true, cond_false]
    generalize (bif decide (k.t.c = R.self) then ruseOwn R k cmd else ruseHeld R k cmd) = q at *
    rcases use_yes g with h | h | h | h <;> subst h
    · exact leaf_cut (rgK Tryz.prog RUseF 3 []) _ _ calNone false 400 [.stop 3] calNone_ok (by kernel_rfl) key
    · exact leaf_cut (rgK Tryz.prog RUseF 3 []) _ _ calNone false 400 [.stop 3] calNone_ok (by kernel_rfl) key
    · exact leaf_cut (rgK Tryz.prog RUseF 3 []) _ _ calNone false 400 [.stop 3] calNone_ok (by kernel_rfl) key
    · exact leaf_cut (rgK Tryz.prog RUseF 3 []) _ _ calNone false 400 [.stop 3] calNone_ok (by kernel_rfl) key
  · rw [g]
    obtain ⟨h1, h2, h3, h4⟩ := useB_n g
    exact leaf_end calNone false 400 [hB 1 1 _ _ h1, hB 1 4 _ _ h2, hB 1 8 _ _ h3, hB 1 12 _ _ h4] calNone_ok (by kernel_rfl)
end Go.Proofs.YtnkghdakjdhhdaaGreat
end
section
namespace Go.Proofs.YtnkghdakjdhhdaaGreat
open Go.RowKit Go.Lib Go.Tk Go.Shelf Go.Vc Go.Sx
def rbillQ (R : RefV) (k : Kid) (amt : Int) : RR :=
  let h := (lkt R.helds k).getD held0
  bif !(lkt R.helds k).isSome then ⟨[], 4, R⟩
  else bif !h.here then ⟨[], 160, R⟩
  else bif !decide (h.k.s = 4) || (h.paid || h.billed) then ⟨[], 6, R⟩
  else bif !mayI amt then ⟨[], 7, R⟩
  else ⟨[billO k amt], 0, R.stH k (billedH h)⟩
def RBillF : Nat := 42
theorem rbill_w (D : CF) {R : RefV} (k : Kid) (hm : R.helds.length ≤ 1000000) (amt : Int) :
    CallOK Tryz.prog RBillF [.ptr 0 0 0, .agg (kidS k), .val (.int .i64 amt)] [] (rfC D R) (.tup [.raw 1 0, eN (rbillQ R k amt).e]) (rfC D (rbillQ R k amt).r ++ [((1, 0), outsC (rbillQ R k amt).out)]) := by
  refine rshutN (n1 := (0, 1)) (n2 := (0, 2)) (n3 := (0, 3)) (rd := []) (outs_of (callOK_intro (by kernel_rfl) fun eb R0 => ?_)) rfl rfl rfl rfl
  have c1 := rheld_w D R k (by omega)
  unfold rbillQ
  rcases rIx_lkt R.helds k with ⟨e, hl⟩ | ⟨i, o, e, hi, hl⟩ <;> rw [e] at c1 <;> rw [hl]
  · exact leaf_end calNone false 400 [hC 1 2 c1] calNone_ok (by kernel_rfl)
  simp only [Option.isSome_some, Option.getD_some, Bool.not_true, cond_false]
  have hil := (List.getElem?_eq_some_iff.1 hi).1
  have z0 : decide ((i : Int) < 0) = false := decide_eq_false (by omega)
  have q0 := hidx R.helds hil
  have q1 := hload R.helds hi (t := 4) (j := 9) (u := .val (.bool o.here)) (by kernel_rfl)
  have q2 := hload R.helds hi (t := 4) (j := 10) (u := .val (.bool o.paid)) (by kernel_rfl)
  have q3 := hload R.helds hi (t := 32) (j := 7) (u := .val (.int .u8 o.k.s)) (by kernel_rfl)
  have q4 := hload R.helds hi (t := 4) (j := 12) (u := .val (.bool o.billed)) (by kernel_rfl)
  have c2 := rmay_w amt
  rw [stH_at e]
  rcases Bool.eq_false_or_eq_true (!o.here) with g1 | g1
  · rw [g1]
    exact leaf_end calNone false 400 [hC 1 2 c1, hG 4 5 q0, hG 5 3 q1, hB 5 4 _ _ g1] calNone_ok (by kernel_rfl)
  rw [g1]
  simp only [cond_false]
  rcases Bool.eq_false_or_eq_true (!decide (o.k.s = 4)) with g2 | g2
  · rw [g2]
    exact leaf_end calNone false 400 [hC 1 2 c1, hG 4 5 q0, hG 5 3 q1, hB 5 4 _ _ g1, hG 7 4 q3, hB 7 5 _ _ g2] calNone_ok (by kernel_rfl)
  rcases Bool.eq_false_or_eq_true o.paid with g3 | g3
  · rw [g2, g3]
    exact leaf_end calNone false 400 [hC 1 2 c1, hG 4 5 q0, hG 5 3 q1, hB 5 4 _ _ g1, hG 7 4 q3, hB 7 5 _ _ g2, hG 7 10 q2, hB 7 10 _ _ g3] calNone_ok (by kernel_rfl)
  rcases Bool.eq_false_or_eq_true o.billed with g4 | g4
  · rw [g2, g3, g4]
    exact leaf_end calNone false 400 [hC 1 2 c1, hG 4 5 q0, hG 5 3 q1, hB 5 4 _ _ g1, hG 7 4 q3, hB 7 5 _ _ g2, hG 7 10 q2, hB 7 10 _ _ g3, hG 7 16 q4, hB 7 16 _ _ g4] calNone_ok (by kernel_rfl)
  rw [g2, g3, g4]
  simp only [Bool.or_self, cond_false]
  have q5 := hstore1 R.helds hi (k, billedH o) (t := 4) (j := 12) (u := .bool true) (by kernel_rfl) rfl rfl (by decide) (by rw [over_list]; rfl)
  have c3 := rtold_w k.t.c ⟨6, k, cpn0, amt, 0⟩
  rcases Bool.eq_false_or_eq_true (mayI amt) with g5 | g5 <;> rw [g5] at c2 ⊢
  · exact leaf_end calNone false 400 [hC 1 2 c1, hG 4 5 q0, hG 5 3 q1, hB 5 4 _ _ g1, hG 7 4 q3, hB 7 5 _ _ g2, hG 7 10 q2, hB 7 10 _ _ g3, hG 7 16 q4, hB 7 16 _ _ g4, hC 9 1 c2, hG 11 3 q5, hC 12 6 c3] calNone_ok (by kernel_rfl)
  · exact leaf_end calNone false 400 [hC 1 2 c1, hG 4 5 q0, hG 5 3 q1, hB 5 4 _ _ g1, hG 7 4 q3, hB 7 5 _ _ g2, hG 7 10 q2, hB 7 10 _ _ g3, hG 7 16 q4, hB 7 16 _ _ g4, hC 9 1 c2] calNone_ok (by kernel_rfl)
def rhbillQ (R : RefV) (c : Int) (m : MsV) : RR :=
  let o := (lkt R.owns m.key).getD own0
  bif !(lkt R.owns m.key).isSome then ⟨[rejO c m.key m.amt 4], 0, R⟩
  else bif !o.away || !decide (o.dst = c) then ⟨[rejO c m.key m.amt 160], 0, R⟩
  else bif o.paid then ⟨[rejO c m.key m.amt 5], 0, R⟩
  else bif !decide (o.k.v = m.amt) then ⟨[rejO c m.key m.amt 1], 0, R⟩
  else ⟨[accO c m.key m.amt], 0, R.stO m.key (paidO o)⟩
def RBilledF : Nat := 105
theorem rbilled_o (D : CF) {R : RefV} (hm : R.owns.length ≤ 1000000) (c : Int) (m : MsV) :
    CallOK Tryz.prog RBilledF [.ptr 0 0 0, .val (.int .u8 c), .agg (msS m)] [] (rfS D R 0) (.raw 1 0) (rfN D (rhbillQ R c m).r (0, 1) (0, 2) (0, 3) ++ [((1, 0), outsR (rhbillQ R c m).out)]) := by
  refine callOK_intro (by kernel_rfl) fun eb R0 => ?_
  have c1 := rown_w D R m.key (by omega)
  have c3 := rtold_w c ⟨8, m.key, cpn0, m.amt, 4⟩
  have c4 := rtold_w c ⟨8, m.key, cpn0, m.amt, 160⟩
  have c5 := rtold_w c ⟨8, m.key, cpn0, m.amt, 5⟩
  have c6 := rtold_w c ⟨8, m.key, cpn0, m.amt, 1⟩
  have c7 := rtold_w c ⟨7, m.key, cpn0, m.amt, 0⟩
  unfold rhbillQ
  rcases rIx_lkt R.owns m.key with ⟨e, hl⟩ | ⟨i, o, e, hi, hl⟩ <;> rw [e] at c1 <;> rw [hl]
  · exact leaf_end calNone false 400 [hC 1 3 c1, hC 12 7 c3] calNone_ok (by kernel_rfl)
  simp only [Option.isSome_some, Option.getD_some, Bool.not_true, cond_false]
  have hil := (List.getElem?_eq_some_iff.1 hi).1
  have z0 : decide ((i : Int) < 0) = false := decide_eq_false (by omega)
  have q0 := oidx R.owns hil
  have q1 := oload R.owns hi (t := 4) (j := 9) (u := .val (.bool o.away)) (by kernel_rfl)
  have q2 := oload R.owns hi (t := 5) (j := 10) (u := .val (.int .u8 o.dst)) (by kernel_rfl)
  have q3 := oload R.owns hi (t := 4) (j := 11) (u := .val (.bool o.paid)) (by kernel_rfl)
  have q4 := oload R.owns hi (t := 2) (j := 6) (u := .val (.int .i64 o.k.v)) (by kernel_rfl)
  rw [stO_at e]
  rcases Bool.eq_false_or_eq_true (!o.away) with g1 | g1
  · rw [g1]
    exact leaf_end calNone false 400 [hC 1 3 c1, hG 5 5 q0, hG 5 8 q1, hB 5 9 _ _ g1, hC 12 7 c4] calNone_ok (by kernel_rfl)
  rcases Bool.eq_false_or_eq_true (!decide (o.dst = c)) with g2 | g2
  · rw [g1, g2]
    exact leaf_end calNone false 400 [hC 1 3 c1, hG 5 5 q0, hG 5 8 q1, hB 5 9 _ _ g1, hG 5 16 q0, hG 5 19 q2, hB 5 21 _ _ g2, hC 12 7 c4] calNone_ok (by kernel_rfl)
  rcases Bool.eq_false_or_eq_true o.paid with g3 | g3
  · rw [g1, g2, g3]
    exact leaf_end calNone false 400 [hC 1 3 c1, hG 5 5 q0, hG 5 8 q1, hB 5 9 _ _ g1, hG 5 16 q0, hG 5 19 q2, hB 5 21 _ _ g2, hG 7 5 q0, hG 7 8 q3, hB 7 8 _ _ g3, hC 12 7 c5] calNone_ok (by kernel_rfl)
  rcases Bool.eq_false_or_eq_true (!decide (o.k.v = m.amt)) with g4 | g4
  · rw [g1, g2, g3, g4]
    exact leaf_end calNone false 400 [hC 1 3 c1, hG 5 5 q0, hG 5 8 q1, hB 5 9 _ _ g1, hG 5 16 q0, hG 5 19 q2, hB 5 21 _ _ g2, hG 7 5 q0, hG 7 8 q3, hB 7 8 _ _ g3, hG 9 5 q0, hG 9 9 q4, hB 9 12 _ _ g4, hC 12 7 c6] calNone_ok (by kernel_rfl)
  rw [g1, g2, g3, g4]
  simp only [Bool.or_self, cond_false]
  have hi2 : (R.owns.set i (m.key, { o with paid := true }))[i]? = some (m.key, { o with paid := true }) := by rw [List.getElem?_set_self hil]
  have q5 := ostore1 R.owns hi (m.key, { o with paid := true }) (t := 4) (j := 11) (u := .bool true) (by kernel_rfl) rfl rfl (by decide) (by rw [over_list]; rfl)
  have q7 := oidx (R.owns.set i (m.key, { o with paid := true })) (i := i) (by rw [List.length_set]; exact hil)
  have q6 := ostore1 (R.owns.set i (m.key, { o with paid := true })) hi2 (m.key, paidO o) (t := 32) (j := 7) (u := .int .u8 4) (by kernel_rfl) rfl rfl (by decide) (by rw [over_list]; rfl)
  rw [List.set_set] at q6
  exact leaf_end calNone false 400 [hC 1 3 c1, hG 5 5 q0, hG 5 8 q1, hB 5 9 _ _ g1, hG 5 16 q0, hG 5 19 q2, hB 5 21 _ _ g2, hG 7 5 q0, hG 7 8 q3, hB 7 8 _ _ g3, hG 9 5 q0, hG 9 9 q4, hB 9 12 _ _ g4, hG 13 5 q0, hG 13 8 q5, hG 14 5 q7, hG 14 9 q6, hC 15 6 c7] calNone_ok (by kernel_rfl)
def rhansR (R : RefV) (c : Int) (m : MsV) : RefV := bif ((lkt R.helds m.key).isSome && decide (m.key.t.c = c)) && ((lkt R.helds m.key).getD held0).billed then R.stH m.key (ansdH ((lkt R.helds m.key).getD held0) m.kind) else R
def rbadHear (R : RefV) (c : Int) (kind : Int) : Bool := !(decide (6 ≤ kind) && decide (kind ≤ 8)) || (decide (c = R.self) || decide (R.n ≤ c))
def rhearBQ (R : RefV) (c : Int) (m : MsV) : RR := bif rbadHear R c m.kind then ⟨[], 1, R⟩ else bif decide (m.kind = 6) then rhbillQ R c m else ⟨[], 0, rhansR R c m⟩
theorem rhbill_e (R : RefV) (c : Int) (m : MsV) : (rhbillQ R c m).e = 0 := by
  unfold rhbillQ
  dsimp only
  cases (lkt R.owns m.key).isSome <;> cases ((lkt R.owns m.key).getD own0).away <;> cases decide (((lkt R.owns m.key).getD own0).dst = c) <;> cases ((lkt R.owns m.key).getD own0).paid <;> cases decide (((lkt R.owns m.key).getD own0).k.v = m.amt) <;> rfl
def RHear18F : Nat := 44
theorem rhans_w (D : CF) {R : RefV} {eb : Env} {R0 : List Chunk} (hm : R.helds.length ≤ 1000000) (c : Int) (m : MsV) :
    Go Tryz.prog RHear18F (.tup [.raw 1 0, eN 0]) ([] ++ (rfN D (rhansR R c m) (0, 1) (0, 2) (0, 3) ++ [((1, 0), outsC [])])) eb R0 .nrm (rgK Tryz.prog RHear18F 5 []) [(0, .ptr 0 0 0), (1, .val (.int .u8 c)), (5, .ptr 1 0 0)] (rfS D R 0 ++ [((1, 0), .box none (msS m))]) := by
  have c1 := rheld_w D R m.key (by omega)
  unfold rhansR
  rcases Bool.eq_false_or_eq_true (decide (m.key.t.c = c)) with g1 | g1
  case inr =>
    rw [g1, Bool.and_false, Bool.false_and]
    exact leaf_end calNone false 400 [hC 5 3 c1, hB 6 5 _ _ g1] calNone_ok (by kernel_rfl)
  rw [g1]
  rcases rIx_lkt R.helds m.key with ⟨e, hl⟩ | ⟨i, o, e, hi, hl⟩ <;> rw [e] at c1 <;> rw [hl]
  · exact leaf_end calNone false 400 [hC 5 3 c1, hB 6 5 _ _ g1] calNone_ok (by kernel_rfl)
  simp only [Option.isSome_some, Option.getD_some, Bool.true_and]
  have hil := (List.getElem?_eq_some_iff.1 hi).1
  have z0 : decide ((0 : Int) ≤ (i : Int)) = true := decide_eq_true (by omega)
  have q0 := hidx R.helds hil
  have q4 := hload R.helds hi (t := 4) (j := 12) (u := .val (.bool o.billed)) (by kernel_rfl)
  rw [stH_at e]
  rcases Bool.eq_false_or_eq_true o.billed with g2 | g2
  case inr =>
    rw [g2]
    exact leaf_end calNone false 400 [hC 5 3 c1, hB 6 5 _ _ g1, hG 6 16 q0, hG 6 19 q4, hB 6 19 _ _ g2] calNone_ok (by kernel_rfl)
  rw [g2]
  simp only [cond_true]
  have hi2 : (R.helds.set i (m.key, ansdP o o.paid))[i]? = some (m.key, ansdP o o.paid) := by rw [List.getElem?_set_self hil]
  have q5 := hstore1 R.helds hi (m.key, ansdP o o.paid) (t := 4) (j := 12) (u := .bool false) (by kernel_rfl) rfl rfl (by decide) (by rw [over_list]; rfl)
  have q7 := hidx (R.helds.set i (m.key, ansdP o o.paid)) (i := i) (by rw [List.length_set]; exact hil)
  have q6 := hstore1 (R.helds.set i (m.key, ansdP o o.paid)) hi2 (m.key, ansdP o true) (t := 4) (j := 10) (u := .bool true) (by kernel_rfl) rfl rfl (by decide) (by rw [over_list]; rfl)
  rw [List.set_set] at q6
  unfold ansdH
  rcases Bool.eq_false_or_eq_true (decide (m.kind = 7)) with g3 | g3
  · rw [g3, Bool.or_true]
    exact leaf_end calNone false 400 [hC 5 3 c1, hB 6 5 _ _ g1, hG 6 16 q0, hG 6 19 q4, hB 6 19 _ _ g2, hG 7 5 q0, hG 7 8 q5, hB 8 2 _ _ g3, hG 9 5 q7, hG 9 8 q6] calNone_ok (by kernel_rfl)
  · rw [g3, Bool.or_false]
    exact leaf_end calNone false 400 [hC 5 3 c1, hB 6 5 _ _ g1, hG 6 16 q0, hG 6 19 q4, hB 6 19 _ _ g2, hG 7 5 q0, hG 7 8 q5, hB 8 2 _ _ g3] calNone_ok (by kernel_rfl)
theorem rhear18_w (D : CF) {R : RefV} (ho : R.owns.length ≤ 1000000) (hm : R.helds.length ≤ 1000000) {c : Int} (hc : 0 ≤ c ∧ c ≤ 255) (m : MsV) :
    CallOK Tryz.prog RHear18F [.ptr 0 0 0, .val (.int .u8 c), .agg (msS m)] [] (rfC D R) (.tup [.raw 1 0, eN (rhearBQ R c m).e]) (rfC D (rhearBQ R c m).r ++ [((1, 0), outsC (rhearBQ R c m).out)]) := by
  refine rshutN (n1 := (0, 1)) (n2 := (0, 2)) (n3 := (0, 3)) (rd := []) (callOK_intro (by kernel_rfl) fun eb R0 => ?_) rfl rfl rfl rfl
  have z1 : IntKind.i64.wrap c = c := wr_i64 (by omega)
  have c1 := outs_of (rbilled_o D ho c m)
  have e1 := rhbill_e R c m
  have fin := rhans_w D (eb := eb) (R0 := R0) hm c m
  unfold rhearBQ rbadHear
  rcases Bool.eq_false_or_eq_true (decide (c = R.self)) with h1 | h1
  · rw [h1, Bool.true_or, Bool.or_true]
    clear c1 e1 fin
    exact leaf_end calNone false 400 [hB 1 5 _ _ h1] calNone_ok (by kernel_rfl)
  rcases Bool.eq_false_or_eq_true (decide (R.n ≤ c)) with h2 | h2
  · rw [h1, h2, Bool.or_true, Bool.or_true]
    clear c1 e1 fin
    exact leaf_end calNone false 400 [hB 1 5 _ _ h1, hI 1 8 IntKind.i64 _ _ z1, hB 1 13 _ _ h2] calNone_ok (by kernel_rfl)
  rcases Bool.eq_false_or_eq_true (decide (m.kind < 6)) with h3 | h3
  · rw [show decide (6 ≤ m.kind) = false from decide_eq_false (by have := of_decide_eq_true h3; omega)]
    clear c1 e1 fin
    exact leaf_end calNone false 400 [hB 1 5 _ _ h1, hI 1 8 IntKind.i64 _ _ z1, hB 1 13 _ _ h2, hB 1 18 _ _ h3] calNone_ok (by kernel_rfl)
  rcases Bool.eq_false_or_eq_true (decide (8 < m.kind)) with h4 | h4
  · rw [show decide (m.kind ≤ 8) = false from decide_eq_false (by have := of_decide_eq_true h4; omega), Bool.and_false]
    clear c1 e1 fin
    exact leaf_end calNone false 400 [hB 1 5 _ _ h1, hI 1 8 IntKind.i64 _ _ z1, hB 1 13 _ _ h2, hB 1 18 _ _ h3, hB 1 23 _ _ h4] calNone_ok (by kernel_rfl)
  rw [h1, h2, show decide (6 ≤ m.kind) = true from decide_eq_true (by have := of_decide_eq_false h3; omega), show decide (m.kind ≤ 8) = true from decide_eq_true (by have := of_decide_eq_false h4; omega)]
  simp only [Bool.and_self, Bool.not_true, Bool.or_self, cond_false]
  rcases Bool.eq_false_or_eq_true (decide (m.kind = 6)) with h5 | h5
  · rw [h5]
    simp only [cond_true]
    rw [e1]
    clear fin e1
    generalize rhbillQ R c m = q at *
    exact leaf_end calNone false 400 [hB 1 5 _ _ h1, hI 1 8 IntKind.i64 _ _ z1, hB 1 13 _ _ h2, hB 1 18 _ _ h3, hB 1 23 _ _ h4, hB 3 2 _ _ h5, hC 4 3 c1] calNone_ok (by kernel_rfl)
  · rw [h5]
    simp only [cond_false]
    clear c1 e1
    generalize rhansR R c m = q at *
    exact leaf_cut (rgK Tryz.prog RHear18F 5 []) _ _ calNone false 400 [hB 1 5 _ _ h1, hI 1 8 IntKind.i64 _ _ z1, hB 1 13 _ _ h2, hB 1 18 _ _ h3, hB 1 23 _ _ h4, hB 3 2 _ _ h5, .stop 5] calNone_ok (by kernel_rfl) fin
end Go.Proofs.YtnkghdakjdhhdaaGreat
end
