/- Rf6, Rf7, Rf8, Rf9, Rf10. -/
import Derived.Test.YtnkghdakjdhhdaaGreatMe8dfd29
import Derived.Test.YtnkghdakjdhhdaaGreatM467ed32
import Derived.Test.YtnkghdakjdhhdaaGreatM68eeddc
set_option maxRecDepth 100000
set_option linter.unusedVariables false
set_option linter.unusedSimpArgs false
set_option linter.unusedSectionVars false
section
namespace Go.Proofs.YtnkghdakjdhhdaaGreat
open Go.RowKit Go.Lib Go.Tk Go.Shelf Go.Vc Go.Sx
def rkEq (a b : Kid) : Bool := (decide (a.t.c = b.t.c) && (decide (a.t.r = b.t.r) && true)) && (decide (a.i = b.i) && true)
theorem rkEq_iff (a b : Kid) : rkEq a b = true ↔ a = b := by
  obtain ⟨⟨a1, a2⟩, a3⟩ := a
  obtain ⟨⟨b1, b2⟩, b3⟩ := b
  unfold rkEq
  simp [and_assoc]
def mine0 : Kid × OwnV := (⟨⟨0, 0⟩, 0⟩, own0)
def rIx {α : Type} (l : List (Kid × α)) (k : Kid) : Int := match l.findIdx? (fun p => rkEq p.1 k) with
  | some i => (i : Int)
  | none => -1
theorem rIx_at {α : Type} {l : List (Kid × α)} {k : Kid} {i : Nat} {z : Kid × α} (hi : i < l.length) (h : rkEq (l.getD i z).1 k = true) (hb : ∀ j, j < i → rkEq (l.getD j z).1 k = false) : rIx l k = (i : Int) := by
  have e : l.findIdx? (fun p => rkEq p.1 k) = some i := by
    rw [List.findIdx?_eq_some_iff_getElem]
    refine ⟨hi, ?_, fun j hj => ?_⟩
    · rw [List.getD_eq_getElem?_getD, List.getElem?_eq_getElem hi] at h; exact h
    · have := hb j hj
      rw [List.getD_eq_getElem?_getD, List.getElem?_eq_getElem (by omega)] at this
      have h2 : rkEq l[j].1 k = false := this
      rw [h2]; decide
  unfold rIx; rw [e]
theorem rIx_none {α : Type} {l : List (Kid × α)} {k : Kid} {z : Kid × α} (hb : ∀ j, j < l.length → rkEq (l.getD j z).1 k = false) : rIx l k = -1 := by
  have e : l.findIdx? (fun p => rkEq p.1 k) = none := by
    rw [List.findIdx?_eq_none_iff]
    intro x hx
    obtain ⟨j, hj, rfl⟩ := List.mem_iff_getElem.1 hx
    have := hb j hj
    rw [List.getD_eq_getElem?_getD, List.getElem?_eq_getElem hj] at this
    exact this
  unfold rIx; rw [e]
def ROwnF : Nat := 27
theorem mineS_nth {l : List (Kid × OwnV)} {i : Nat} (h : i < l.length) : ∀ (ε : Env) (q : Nat) (v : SV), (mineS (l.getD i mine0))[q]? = some v → (cellsL mineC l)[i * 13 + q]? = some (v.den ε) :=
  cells_nth (enc := mineC) (encS := mineS) (fun _ _ => rfl) (fun _ => rfl) (getD_some h mine0)
theorem rown_w (D : CF) (B : RefV) (k : Kid) (hn : B.owns.length ≤ 9223372036854775807) : CallOK Tryz.prog ROwnF [.ptr 0 0 0, .agg (kidS k)] (rfS D B 0) [] (.val (.int .i64 (rIx B.owns k))) [] := by
  refine callOK_intro (by kernel_rfl) fun eb R => ?_
  have ql := q_len (P := Tryz.prog) (E := 85) (size := 13) (enc := mineC) B.owns
  refine go_loop (X := { i : Nat // i ≤ B.owns.length ∧ ∀ j, j < i → rkEq (B.owns.getD j mine0).1 k = false }) 0 [] (fun y => ([(0, .ptr 0 0 0), (3, .ptr 1 0 0), (5, .val (.int .i64 (y.1 : Int)))], rfS D B 0 ++ [((1, 0), .box none (kidS k))])) (fun y => B.owns.length - y.1) ⟨0, Nat.zero_le _, fun j hj => by omega⟩ calNone false 400 [] calNone_ok (by kernel_rfl) ?_
  rintro ⟨i, hi, hp⟩ J hJ
  by_cases h : i < B.owns.length
  · have z0 : decide ((i : Int) < (B.owns.length : Int)) = true := decide_eq_true (by omega)
    have q1 := q_idx (P := Tryz.prog) (t := 78) (i := i) (k := .i64) (E := 85) (size := 13) (enc := mineC) B.owns (fun _ => rfl) (by decide) (by kernel_rfl) h
    have q2 := q_load (P := Tryz.prog) (t := 27) (b := i * 13) (j := 0) (cs := mineS (B.owns.getD i mine0)) (u := .agg (kidS (B.owns.getD i mine0).1)) (E := 85) (size := 13) (enc := mineC) B.owns (by kernel_rfl) (mineS_nth h)
    have z9 : IntKind.i64.wrap ((i : Int) + 1) = ((i + 1 : Nat) : Int) := by rw [wr_i64 (by omega)]; omega
    have at_ := rIx_at (z := mine0) (k := k) h
    have hJ' : rkEq (B.owns.getD i mine0).1 k = false → ∀ ε a' w, Rel (ntOf Tryz.prog ROwnF) 1 eb R ⟨[(0, .ptr 0 0 0), (3, .ptr 1 0 0), (5, .val (.int .i64 ((i + 1 : Nat) : Int)))], rfS D B 0 ++ [((1, 0), .box none (kidS k))], 2⟩ ε a' w → J a' w := fun hg => hJ ⟨i + 1, h, fun j hj => by
      rcases Nat.lt_or_ge j i with hj' | hj'
      · exact hp j hj'
      · have : j = i := by omega
        subst this; exact hg⟩ (by show _ - (i + 1) < _ - i; omega)
    clear hJ
    show Go Tryz.prog ROwnF _ (rfS D B 0 ++ []) eb R .nrm (.code (lpB Tryz.prog ROwnF 0 []) :: .lp J :: lpK Tryz.prog ROwnF 0 []) [(0, .ptr 0 0 0), (3, .ptr 1 0 0), (5, .val (.int .i64 (i : Int)))] (rfS D B 0 ++ [((1, 0), .box none (kidS k))])
    generalize B.owns.getD i mine0 = x at *
    rcases Bool.eq_false_or_eq_true (rkEq x.1 k) with e | e
    · rw [at_ e hp]
      unfold rkEq at e
      clear hJ' at_ hp
      exact leaf_end calNone false 400 [hG 2 5 ql, hB 2 6 _ _ z0, hG 4 5 q1, hG 4 7 q2, hB 4 9 _ _ e] calNone_ok (by kernel_rfl)
    · have hJ' := hJ' e
      unfold rkEq at e
      clear at_ hp
      exact leaf_round (lpK Tryz.prog ROwnF 0 []) false 400 [hG 2 5 ql, hB 2 6 _ _ z0, hG 4 5 q1, hG 4 7 q2, hB 4 9 _ _ e, hI 3 1 IntKind.i64 _ _ z9] hJ' (by kernel_rfl)
  · have z0 : decide ((i : Int) < (B.owns.length : Int)) = false := decide_eq_false (by omega)
    have he : i = B.owns.length := by omega
    have e1 := rIx_none (l := B.owns) (z := mine0) (k := k) (fun j hj => hp j (by omega))
    rw [e1]
    clear hJ e1
    show Go Tryz.prog ROwnF _ (rfS D B 0 ++ []) eb R .nrm (.code (lpB Tryz.prog ROwnF 0 []) :: .lp J :: lpK Tryz.prog ROwnF 0 []) [(0, .ptr 0 0 0), (3, .ptr 1 0 0), (5, .val (.int .i64 (i : Int)))] (rfS D B 0 ++ [((1, 0), .box none (kidS k))])
    subst he
    clear hp
    exact leaf_end calNone false 400 [hG 2 5 ql, hB 2 6 _ _ z0] calNone_ok (by kernel_rfl)
end Go.Proofs.YtnkghdakjdhhdaaGreat
end
section
namespace Go.Proofs.YtnkghdakjdhhdaaGreat
open Go.RowKit Go.Lib Go.Tk Go.Shelf Go.Vc Go.Sx
def AheadF : Nat := 83
def aheadB (a b : Kid) : Bool := bif !decide (a.t.c = b.t.c) then decide (a.t.c < b.t.c) else bif !decide (a.t.r = b.t.r) then decide (a.t.r < b.t.r) else decide (a.i < b.i)
theorem ahead_w (a b : Kid) : CallOK Tryz.prog AheadF [.agg (kidS a), .agg (kidS b)] [] [] (.val (.bool (aheadB a b))) [] := by
  unfold aheadB
  rcases Bool.eq_false_or_eq_true (!decide (a.t.c = b.t.c)) with g1 | g1 <;> rw [g1]
  · exact callOK_run 400 [hB 1 6 _ _ g1] (by kernel_rfl) (by kernel_rfl)
  rcases Bool.eq_false_or_eq_true (!decide (a.t.r = b.t.r)) with g2 | g2 <;> rw [g2]
  · exact callOK_run 400 [hB 1 6 _ _ g1, hB 3 6 _ _ g2] (by kernel_rfl) (by kernel_rfl)
  exact callOK_run 400 [hB 1 6 _ _ g1, hB 3 6 _ _ g2] (by kernel_rfl) (by kernel_rfl)
def other0 : Kid × HeldV := (⟨⟨0, 0⟩, 0⟩, held0)
def RHeldF : Nat := 82
theorem otherS_nth {l : List (Kid × HeldV)} {i : Nat} (h : i < l.length) : ∀ (ε : Env) (q : Nat) (v : SV), (otherS (l.getD i other0))[q]? = some v → (cellsL otherC l)[i * 13 + q]? = some (v.den ε) :=
  cells_nth (enc := otherC) (encS := otherS) (fun _ _ => rfl) (fun _ => rfl) (getD_some h other0)
theorem rheld_w (D : CF) (B : RefV) (k : Kid) (hn : B.helds.length ≤ 9223372036854775807) : CallOK Tryz.prog RHeldF [.ptr 0 0 0, .agg (kidS k)] (rfS D B 0) [] (.val (.int .i64 (rIx B.helds k))) [] := by
  refine callOK_intro (by kernel_rfl) fun eb R => ?_
  have ql := q_len (P := Tryz.prog) (E := 148) (size := 13) (enc := otherC) B.helds
  refine go_loop (X := { i : Nat // i ≤ B.helds.length ∧ ∀ j, j < i → rkEq (B.helds.getD j other0).1 k = false }) 0 [] (fun y => ([(0, .ptr 0 0 0), (3, .ptr 1 0 0), (5, .val (.int .i64 (y.1 : Int)))], rfS D B 0 ++ [((1, 0), .box none (kidS k))])) (fun y => B.helds.length - y.1) ⟨0, Nat.zero_le _, fun j hj => by omega⟩ calNone false 400 [] calNone_ok (by kernel_rfl) ?_
  rintro ⟨i, hi, hp⟩ J hJ
  by_cases h : i < B.helds.length
  · have z0 : decide ((i : Int) < (B.helds.length : Int)) = true := decide_eq_true (by omega)
    have q1 := q_idx (P := Tryz.prog) (t := 79) (i := i) (k := .i64) (E := 148) (size := 13) (enc := otherC) B.helds (fun _ => rfl) (by decide) (by kernel_rfl) h
    have q2 := q_load (P := Tryz.prog) (t := 27) (b := i * 13) (j := 0) (cs := otherS (B.helds.getD i other0)) (u := .agg (kidS (B.helds.getD i other0).1)) (E := 148) (size := 13) (enc := otherC) B.helds (by kernel_rfl) (otherS_nth h)
    have z9 : IntKind.i64.wrap ((i : Int) + 1) = ((i + 1 : Nat) : Int) := by rw [wr_i64 (by omega)]; omega
    have at_ := rIx_at (z := other0) (k := k) h
    have hJ' : rkEq (B.helds.getD i other0).1 k = false → ∀ ε a' w, Rel (ntOf Tryz.prog RHeldF) 1 eb R ⟨[(0, .ptr 0 0 0), (3, .ptr 1 0 0), (5, .val (.int .i64 ((i + 1 : Nat) : Int)))], rfS D B 0 ++ [((1, 0), .box none (kidS k))], 2⟩ ε a' w → J a' w := fun hg => hJ ⟨i + 1, h, fun j hj => by
      rcases Nat.lt_or_ge j i with hj' | hj'
      · exact hp j hj'
      · have : j = i := by omega
        subst this; exact hg⟩ (by show _ - (i + 1) < _ - i; omega)
    clear hJ
    show Go Tryz.prog RHeldF _ (rfS D B 0 ++ []) eb R .nrm (.code (lpB Tryz.prog RHeldF 0 []) :: .lp J :: lpK Tryz.prog RHeldF 0 []) [(0, .ptr 0 0 0), (3, .ptr 1 0 0), (5, .val (.int .i64 (i : Int)))] (rfS D B 0 ++ [((1, 0), .box none (kidS k))])
    generalize B.helds.getD i other0 = x at *
    rcases Bool.eq_false_or_eq_true (rkEq x.1 k) with e | e
    · rw [at_ e hp]
      unfold rkEq at e
      clear hJ' at_ hp
      exact leaf_end calNone false 400 [hG 2 5 ql, hB 2 6 _ _ z0, hG 4 5 q1, hG 4 7 q2, hB 4 9 _ _ e] calNone_ok (by kernel_rfl)
    · have hJ' := hJ' e
      unfold rkEq at e
      clear at_ hp
      exact leaf_round (lpK Tryz.prog RHeldF 0 []) false 400 [hG 2 5 ql, hB 2 6 _ _ z0, hG 4 5 q1, hG 4 7 q2, hB 4 9 _ _ e, hI 3 1 IntKind.i64 _ _ z9] hJ' (by kernel_rfl)
  · have z0 : decide ((i : Int) < (B.helds.length : Int)) = false := decide_eq_false (by omega)
    have he : i = B.helds.length := by omega
    have e1 := rIx_none (l := B.helds) (z := other0) (k := k) (fun j hj => hp j (by omega))
    rw [e1]
    clear hJ e1
    show Go Tryz.prog RHeldF _ (rfS D B 0 ++ []) eb R .nrm (.code (lpB Tryz.prog RHeldF 0 []) :: .lp J :: lpK Tryz.prog RHeldF 0 []) [(0, .ptr 0 0 0), (3, .ptr 1 0 0), (5, .val (.int .i64 (i : Int)))] (rfS D B 0 ++ [((1, 0), .box none (kidS k))])
    subst he
    clear hp
    exact leaf_end calNone false 400 [hG 2 5 ql, hB 2 6 _ _ z0] calNone_ok (by kernel_rfl)
end Go.Proofs.YtnkghdakjdhhdaaGreat
end
section
namespace Go.Sx
open Go.RowKit Go.Lib Go.Tk Go.Shelf Go.Vc
section
variable {P : Program}
attribute [-go_sem] Value.cells in
theorem Mem.storeQ {cs : List Chunk} {w : World} (h : Mem cs w) (i : Nat) {E size n : Nat} {v : Value} {xs : List Value} (hi : cs[i]? = some (qcC E size v n xs)) (t : TypeId) (off : Nat) (u : Value) (cells : List Value) (hv : u.cells = cells.toArray)
    (ht : (P.info? t).map (·.size) = some cells.length) (hl : off + cells.length ≤ xs.length) (h1 : cells.all (·.oneCell') = true) (h0 : 0 < xs.length) :
    ∃ w', Sem.run P (Instr.storeAt t (.pointer (some ⟨(adOf v).block, (adOf v).off + off, none⟩)) u) w = .ok () w' ∧ Mem (cs.set i (qcC E size v n (over xs.toArray off cells).toList)) w' := by
  have hb := Mem.qs h i hi
  obtain ⟨hlen, ⟨h1', h2⟩ | ⟨g, lo, cap, cur, rfl, hbx, hnc, hcm, hcs, htake⟩⟩ := hb
  · subst h2; simp at hlen; rw [hlen] at h0; simp at h0
  have hxl : lo * size + xs.length ≤ cur.size := by
    have h5 : n * size ≤ cap * size := Nat.mul_le_mul_right _ hnc
    rw [Nat.add_mul] at hcs
    omega
  obtain ⟨w', h4, h2, h3⟩ := run_storeCells P cells (lo * size + off) 0 cur w hbx (by omega) h1
  rw [Nat.add_zero] at h3
  have hxc : xs = (cur.toList.drop (lo * size)).take xs.length := by rw [hlen]; exact htake.symm
  refine ⟨w', ?_, h.step i hi (fun S hS hlt => ⟨h2.mono (fun k _ e => by rw [e]; exact hS.1 g rfl), fun k => k = g, ⟨fun g' hg => by cases hg; rfl, ?_, .inr ⟨g, lo, cap, _, rfl, h3, hnc, hcm, ?_, ?_⟩⟩, fun k hk => ⟨.inl (by rw [hk]; exact hS.1 g rfl), by rw [hk]; exact h3.lt⟩⟩)⟩
  · obtain ⟨i0, hi0, hs0⟩ := Option.map_eq_some_iff.1 ht
    have hv2 : u.cells.size = cells.length := by rw [hv]; simp
    have hv3 : u.cells.toList = cells := by rw [hv]
    simp [Instr.storeAt, Instr.sureAddr, storeVar, sizeOf, typeInfo, go_sem, hi0, hs0, adOf, hv2, hv3, h4]
  · rw [← hlen]; unfold over; simp [List.length_take]; omega
  · have e9 : (over cur (lo * size + off) cells).size = cur.size := by unfold over; simp [List.length_take]; omega
    rw [e9]; exact hcs
  · rw [← hlen]
    have e0 : (over cur (lo * size + off) cells).toList.drop (lo * size) = (cur.toList.drop (lo * size)).take off ++ cells ++ (cur.toList.drop (lo * size)).drop (off + cells.length) := by
      unfold over
      simp only [List.append_assoc]
      rw [List.drop_append_of_le_length (by rw [List.length_take]; simp only [Array.length_toList]; omega), List.drop_take, Nat.add_sub_cancel_left, List.drop_drop]
      simp only [Nat.add_assoc]
    rw [e0]
    have hD : (cur.toList.drop (lo * size)).length = cur.size - lo * size := by simp
    generalize cur.toList.drop (lo * size) = D at *
    unfold over
    simp only [List.append_assoc]
    rw [List.take_append, List.take_append]
    simp only [List.length_take]
    have e1 : min off D.length = off := by omega
    have e2 : (D.take off).take xs.length = xs.take off := by
      have e5 : xs.take off = (D.take xs.length).take off := by rw [← hxc]
      rw [e5, List.take_take, List.take_take, Nat.min_comm]
    have e3 : cells.take (xs.length - off) = cells := List.take_of_length_le (by omega)
    rw [e1, e2, e3]
    congr 2
    have : xs.drop (off + cells.length) = (D.take xs.length).drop (off + cells.length) := by rw [← hxc]
    rw [this, List.drop_take]
    congr 1; omega
def isSto (t : TypeId) (o : Oper) : Bool := match o.op with
  | .store t' _ _ => Nat.beq t t'
  | _ => false
def stoXY (o : Oper) : List Operand := match o.op with
  | .store _ x y => [x, y]
  | _ => []
theorem q_store {α : Type} {E size : Nat} {enc : α → List Value} {t b j : Nat} {cs : List SV} {us : List Value} (l l' : List α) (ht : (P.info? t).map (·.size) = some us.length) (hcs : ∀ ε, SV.dens ε cs = us) (h1 : us.all (·.oneCell') = true)
    (h0 : 0 < (cellsL enc l).length) (hl : b + j + us.length ≤ (cellsL enc l).length) (hn : l'.length = l.length) (hov : (over (cellsL enc l).toArray (b + j) us).toList = cellsL enc l') :
    OpG P (isSto t) stoXY [.elt 0 0 0 b j, .agg cs] [] [((0, 0), .fam (qF E size enc l))] (.val undef) [((0, 0), .fam (qF E size enc l'))] := by
  intro o ho
  unfold isSto at ho
  split at ho <;> try (cases ho; done)
  rename_i t' x y hop
  have e1 := Nat.eq_of_beq_eq_true ho
  subst e1
  have hx' : stoXY o = [x, y] := by unfold stoXY; rw [hop]
  rw [hx']
  refine ⟨fun z hz => by rw [hop]; simp [Op.operands]; simpa using hz, fun ε ρ R w hx hM => ?_⟩
  simp only [List.map_cons, List.map_nil, SV.dens, SV.den, List.cons.injEq, and_true] at hx
  have hM : Mem (qcC E size (ε 0 0).2 l.length (cellsL enc l) :: R) w := hM
  obtain ⟨w', hr, hm⟩ := Mem.storeQ (P := P) hM 0 rfl t (b + j) (.agg us.toArray) us (by simp [Value.cells]) ht hl h1 h0
  refine res_st (x_store hop (hx.1.trans (by simp [Nat.add_assoc])) (hx.2.trans (by rw [hcs])) hr) ⟨fun _ => (0, undef), by simp only [SV.den], ?_⟩
  rw [hov] at hm
  have e0 : eset ε 1 (fun _ => (0, undef)) 0 0 = ε 0 0 := by rw [eset_ne (by decide)]
  show Mem (qcC E size (eset ε 1 (fun _ => (0, undef)) 0 0).2 l'.length (cellsL enc l') :: R) w'
  rw [e0, hn]
  exact hm
end
end Go.Sx
end
section
namespace Go.Proofs.YtnkghdakjdhhdaaGreat
open Go.RowKit Go.Lib Go.Tk Go.Shelf Go.Vc Go.Sx
theorem over_list (xs : List Value) (off : Nat) (us : List Value) : (over xs.toArray off us).toList = xs.take off ++ us ++ xs.drop (off + us.length) := by
  unfold over; simp
theorem over_cells {α : Type} {enc : α → List Value} {size : Nat} (hk : ∀ x, (enc x).length = size) {x y : α} {j : Nat} {us : List Value} (hj : j + us.length ≤ size) (hx : (over (enc y).toArray j us).toList = enc x) :
    ∀ (l : List α) {i : Nat}, l[i]? = some y → (over (cellsL enc l).toArray (i * size + j) us).toList = cellsL enc (l.set i x)
  | [], i, h => by cases h
  | z :: l, 0, h => by
    cases h
    have e : cellsL enc (y :: l) = enc y ++ cellsL enc l := rfl
    have e2 : cellsL enc ((y :: l).set 0 x) = enc x ++ cellsL enc l := rfl
    rw [e, e2, ← hx, over_list, over_list, Nat.zero_mul, Nat.zero_add, List.take_append_of_le_length (by rw [hk]; omega), List.drop_append_of_le_length (by rw [hk]; omega)]
    simp only [List.append_assoc]
  | z :: l, i + 1, h => by
    have ih := over_cells hk hj hx l (i := i) h
    have e : cellsL enc (z :: l) = enc z ++ cellsL enc l := rfl
    have e2 : cellsL enc ((z :: l).set (i + 1) x) = enc z ++ cellsL enc (l.set i x) := rfl
    have hz := hk z
    rw [e, e2, ← ih, over_list, over_list, show (i + 1) * size + j = (enc z).length + (i * size + j) by rw [hz, Nat.add_mul]; omega, List.take_length_add_append, Nat.add_assoc, List.drop_length_add_append]
    simp only [List.append_assoc]
theorem rown_store (l : List (Kid × OwnV)) {i : Nat} {k : Kid} {o o' : OwnV} (h : l[i]? = some (k, o)) : (over (cellsL mineC l).toArray (i * 13 + 3) (ownL o')).toList = cellsL mineC (l.set i (k, o')) :=
  over_cells (enc := mineC) (size := 13) (x := (k, o')) (y := (k, o)) (j := 3) (us := ownL o') (fun _ => rfl) (by show (3 + 10 : Nat) ≤ 13; omega) (by rw [over_list]; rfl) l h
end Go.Proofs.YtnkghdakjdhhdaaGreat
end
section
namespace Go.Sx
open Go.RowKit Go.Lib Go.Tk Go.Shelf Go.Vc
section
variable {P : Program} {α : Type} {enc : α → List Value} {E size : Nat}
def isLow (t : TypeId) (o : Oper) : Bool := match o.op with
  | .slice t' _ (some _) none none => Nat.beq t t'
  | _ => false
def isHigh (t : TypeId) (o : Oper) : Bool := match o.op with
  | .slice t' _ none (some _) none => Nat.beq t t'
  | _ => false
def highX (o : Oper) : List Operand := match o.op with
  | .slice _ x _ (some y) _ => [x, y]
  | _ => []
theorem QF.isL {w : World} {v : Value} {n : Nat} {xs : List Value} (h : QF E size w v n xs) : ∃ a c, v = .slice a n c ∧ n ≤ c := by
  obtain ⟨hl, ⟨h1, h2⟩ | ⟨g, lo, cap, cur, hv, -, h3, -⟩⟩ := h
  · exact ⟨none, 0, by rw [h1, h2], by omega⟩
  · exact ⟨_, cap, hv, h3⟩
theorem q_drop {t : TypeId} {k : IntKind} {i : Nat} (l : List α) (hT : sliceT P t size = true) (hi : i ≤ l.length) :
    OpG P (isLow t) sliceX [.any 0 0, .val (.int k (i : Int))] [((0, 0), .fam (qF E size enc l))] [] (.win 0 0 size i (l.length - i)) [] := by
  intro o ho
  unfold isLow at ho
  split at ho <;> try (cases ho; done)
  rename_i t' x y hop
  have e1 := Nat.eq_of_beq_eq_true ho
  subst e1
  have hx' : sliceX o = [x, y] := by unfold sliceX; rw [hop]
  rw [hx']
  refine ⟨fun z hz => by rw [hop]; simp only [List.mem_cons, List.not_mem_nil, or_false] at hz; rcases hz with rfl | rfl <;> simp [Op.operands], fun ε ρ R w hx hM => ?_⟩
  simp only [List.map_cons, List.map_nil, SV.dens, SV.den, List.cons.injEq, and_true] at hx
  have hM : Mem (qcC E size (ε 0 0).2 l.length (cellsL enc l) :: R) w := hM
  obtain ⟨a, cap, hv, hle⟩ := (Mem.qs hM 0 rfl).isL
  have hrun := x_sliceN (P := P) (ρ := ρ) (o := o) (w := w) (t := t) (n := size) (l := i) (h := l.length) hop (hx.1.trans hv) hT (.inr ⟨_, _, rfl, hx.2⟩) (.inl ⟨rfl, rfl⟩) hi hle
  refine res_ok hrun ⟨ε 1, ?_, by rw [eset_self]; exact hM⟩
  rw [eset_self]; simp only [SV.den, hv]; rfl
theorem q_take {t : TypeId} {k : IntKind} {i : Nat} (l : List α) (hT : sliceT P t size = true) (hi : i ≤ l.length) :
    OpG P (isHigh t) highX [.any 0 0, .val (.int k (i : Int))] [((0, 0), .fam (qF E size enc l))] [] (.win 0 0 size 0 i) [] := by
  intro o ho
  unfold isHigh at ho
  split at ho <;> try (cases ho; done)
  rename_i t' x y hop
  have e1 := Nat.eq_of_beq_eq_true ho
  subst e1
  have hx' : highX o = [x, y] := by unfold highX; rw [hop]
  rw [hx']
  refine ⟨fun z hz => by rw [hop]; simp only [List.mem_cons, List.not_mem_nil, or_false] at hz; rcases hz with rfl | rfl <;> simp [Op.operands], fun ε ρ R w hx hM => ?_⟩
  simp only [List.map_cons, List.map_nil, SV.dens, SV.den, List.cons.injEq, and_true] at hx
  have hM : Mem (qcC E size (ε 0 0).2 l.length (cellsL enc l) :: R) w := hM
  obtain ⟨a, cap, hv, hle⟩ := (Mem.qs hM 0 rfl).isL
  have hrun := x_sliceN (P := P) (ρ := ρ) (o := o) (w := w) (t := t) (n := size) (l := 0) (h := i) hop (hx.1.trans hv) hT (.inl ⟨rfl, rfl⟩) (.inr ⟨_, _, rfl, hx.2⟩) (Nat.zero_le _) (by omega)
  refine res_ok hrun ⟨ε 1, ?_, by rw [eset_self]; exact hM⟩
  rw [eset_self]; simp only [SV.den, hv]; rfl
theorem QF.src {t e' : TypeId} {w : World} {v : Value} {n i : Nat} {xs : List Value} (h : QF E size w v n xs) (hi : i ≤ n) (h1 : ∀ u ∈ xs, u.oneCell' = true) (hT : P.underlying t = some (.slice e')) : Go.Src P size t (winV v size i (n - i)) (n - i) (xs.drop (i * size)) w := by
  have hlen : (xs.drop (i * size)).length = (n - i) * size := by rw [List.length_drop, h.1, Nat.sub_mul]
  obtain ⟨a, c, hv, hle⟩ := h.isL
  subst hv
  cases a with
  | none =>
    have hn : n = 0 := by
      rcases h.2 with ⟨-, h2⟩ | ⟨g, lo, cap, cur, hv, -⟩
      · exact h2
      · cases hv
    have hx : xs = [] := List.length_eq_zero_iff.1 (by rw [h.1, hn, Nat.zero_mul])
    subst hn; subst hx
    have hi0 : i = 0 := by omega
    subst hi0
    have e0 : winV (.slice none 0 c) size 0 (0 - 0) = .slice none 0 c := by simp [winV]
    rw [e0, List.drop_nil]
    exact Go.Src.ofNil (P := P) w hT c
  | some ad =>
    have e0 : ∃ ad', winV (.slice (some ad) n c) size i (n - i) = .slice (some ad') (n - i) (c - i) ∧ (i < n → ad' = ad.add (i * size)) := by
      unfold winV
      by_cases hc : c = i
      · exact ⟨ad, by simp only [if_pos hc], fun h => by omega⟩
      · exact ⟨ad.add (i * size), by simp only [if_neg hc, Option.map_some], fun _ => rfl⟩
    obtain ⟨ad', e1, e2⟩ := e0
    rw [e1]
    refine Go.Src.ofSlice (P := P) w hT ad' (n - i) (c - i) _ hlen (fun j u hj => ?_) fun u hu => h1 u (List.mem_of_mem_drop hu)
    have hjl := (List.getElem?_eq_some_iff.1 hj).1
    have hin : i < n := by
      rcases Nat.lt_or_ge i n with q | q
      · exact q
      · rw [hlen, show n - i = 0 by omega, Nat.zero_mul] at hjl; omega
    rw [List.getElem?_drop] at hj
    obtain ⟨g, off, cap, hv, hc⟩ := h.cell hj
    cases hv
    rw [e2 hin]
    have : (Addr.add (Addr.add ⟨g, off, none⟩ (i * size)) j) = ⟨g, off + (i * size + j), none⟩ := by rw [addr_add, addr_add, Nat.add_assoc]
    rw [this]; exact hc
theorem cellsL_drop (hk : ∀ x, (enc x).length = size) : ∀ (l : List α) (i : Nat), (cellsL enc l).drop (i * size) = cellsL enc (l.drop i)
  | l, 0 => by rw [Nat.zero_mul]; rfl
  | [], i + 1 => by rw [List.drop_nil]; exact List.drop_nil
  | x :: l, i + 1 => by
    have ih := cellsL_drop hk l i
    have e : cellsL enc (x :: l) = enc x ++ cellsL enc l := rfl
    rw [e, show (i + 1) * size = (enc x).length + i * size by rw [hk, Nat.add_mul]; omega, List.drop_length_add_append, ih]; rfl
theorem cellsL_take (hk : ∀ x, (enc x).length = size) : ∀ (l : List α) (i : Nat), (cellsL enc l).take (i * size) = cellsL enc (l.take i)
  | l, 0 => by rw [Nat.zero_mul]; rfl
  | [], i + 1 => by rw [List.take_nil]; exact List.take_nil
  | x :: l, i + 1 => by
    have ih := cellsL_take hk l i
    have e : cellsL enc (x :: l) = enc x ++ cellsL enc l := rfl
    rw [e, show (i + 1) * size = (enc x).length + i * size by rw [hk, Nat.add_mul]; omega, List.take_length_add_append, ih]; rfl
theorem cellsL_one {l : List α} (h1 : ∀ x, ∀ u ∈ enc x, u.oneCell' = true) : ∀ u ∈ cellsL enc l, u.oneCell' = true := fun u hu => by
  unfold cellsL at hu
  obtain ⟨r, hr, hu⟩ := List.mem_flatten.1 hu
  obtain ⟨x, -, rfl⟩ := List.mem_map.1 hr
  exact h1 x u hu
theorem cellsL_app (l m : List α) : cellsL enc (l ++ m) = cellsL enc l ++ cellsL enc m := by unfold cellsL; simp
theorem q_copy {t : TypeId} {i : Nat} (l : List α) (hk : ∀ x, (enc x).length = size) (h1 : ∀ x, ∀ u ∈ enc x, u.oneCell' = true) (hT : P.underlying t = some (.slice E)) (hinf : infoB P E size = true) (hi : i ≤ l.length) (hn : l.length ≤ 1073741824) :
    OpG P (isApp P t t) lenX [.val (.slice none 0 0), .win 0 0 size i (l.length - i)] [((0, 0), .fam (qF E size enc l))] [] (.any 1 0) [((1, 0), .fam (qF E size enc (l.drop i)))] := by
  intro o ho
  obtain ⟨c, y, z, ho, hc, ha, hat, hx⟩ := isApp_of ho
  rw [hx]
  obtain ⟨ie, zv, hi', hz, hsz, hzs, h0, hb⟩ := infoB_of hinf
  refine ⟨fun q hq => by rw [ho]; simp [Op.operands, Call.operands, hc, ha]; simpa using hq, fun ε ρ R w hx hM => ?_⟩
  simp only [List.map_cons, List.map_nil, SV.dens, SV.den, List.cons.injEq, and_true] at hx
  obtain ⟨hx, hy⟩ := hx
  have hM : Mem (qcC E size (ε 0 0).2 l.length (cellsL enc l) :: R) w := hM
  have hS := (Mem.qs hM 0 rfl).src (P := P) hi (cellsL_one h1) hT
  have h63 : 0 + (l.length - i) ≤ maxLen := by simp only [maxLen]; omega
  have hA := apps_src (P := P) t t o.type E size ie.bytes 0 (l.length - i) zv hT (by rw [hi']; simp [hz, hsz]) hS h63 (by
    have : (l.length - i) * ie.bytes ≤ 1073741824 * 131072 := Nat.mul_le_mul (by omega) hb
    rw [Nat.zero_add]; omega)
  obtain ⟨v', w', hr, hm⟩ := Mem.apps (Mem.noRow hM E size) 0 rfl hA hzs h63
  have hm : Mem (rowC E size v' (0 + (l.length - i)) ([] ++ (cellsL enc l).drop (i * size)) :: qcC E size (ε 0 0).2 l.length (cellsL enc l) :: R) w' := hm
  rw [Nat.zero_add, List.nil_append, cellsL_drop hk, ← List.length_drop] at hm
  have hm2 := hm.weaken fun S hS => row_q hS
  refine res_ok (x_append ho hc ha hat hx hy hr) ⟨fun _ => (0, v'), by simp only [SV.den, eset_at], ?_⟩
  show Mem (qcC E size (eset ε 1 (fun _ => (0, v')) 0 0).2 l.length (cellsL enc l) :: qcC E size (eset ε 1 (fun _ => (0, v')) 1 0).2 (l.drop i).length (cellsL enc (l.drop i)) :: R) w'
  rw [eset_at, eset_ne (show (0 : Nat) ≠ 1 by decide)]
  exact mem_perm (List.Perm.swap _ _ _) hm2
theorem QF.head {w : World} {v : Value} {n i : Nat} {xs : List Value} (h : QF E size w v n xs) (hi : i ≤ n) : QF E size w (winV v size 0 i) i (xs.take (i * size)) := by
  have hlen : (xs.take (i * size)).length = i * size := by rw [List.length_take, h.1]; exact Nat.min_eq_left (Nat.mul_le_mul_right _ hi)
  refine ⟨hlen, ?_⟩
  rcases h.2 with ⟨h1, h2⟩ | ⟨g, lo, cap, cur, hv, hb, h1, h2, h3, h4⟩
  · left
    have : i = 0 := by omega
    subst this
    rw [h1]; exact ⟨by unfold winV; simp, rfl⟩
  · right
    refine ⟨g, lo, cap, cur, ?_, hb, by omega, h2, h3, ?_⟩
    · rw [hv]; unfold winV
      have : (Addr.add ⟨g, lo * size, none⟩ (0 * size)) = (⟨g, lo * size, none⟩ : Addr) := by rw [addr_add]; simp
      by_cases hc : cap = 0
      · simp [hc]
      · simp only [if_neg hc, Option.map_some, this]; rfl
    · rw [← h4, List.take_take, Nat.min_eq_left (Nat.mul_le_mul_right _ hi)]
theorem ownBlock_win {v : Value} {size i n : Nat} {g : Nat} (h : (winV v size 0 i).ownBlock = some g) (hv : ∃ a c, v = .slice a n c) : v.ownBlock = some g := by
  obtain ⟨a, c, rfl⟩ := hv
  unfold winV at h
  simp only at h
  split at h
  · cases a <;> exact h
  · cases a with
    | none => cases h
    | some ad => 
      simp only [Option.map_some, Nat.zero_mul] at h
      have : ad.add 0 = ad := by simp [Addr.add]
      rw [this] at h; exact h
theorem q_cut {t : TypeId} {i : Nat} (l : List α) (x : α) (cs : List SV) (hcs : ∀ ε, SV.dens ε cs = enc x) (h1 : ∀ u ∈ enc x, u.oneCell' = true) (hk : ∀ x, (enc x).length = size) (hT : P.underlying t = some (.slice E)) (hinf : infoB P E size = true) (hi : i ≤ l.length) (hn : i + 1 ≤ 1073741824) :
    OpG P (isApp P t t) lenX [.win 0 0 size 0 i, .raw 0 1] [((0, 1), .row E size 1 (.deep cs) [])] [((0, 0), .fam (qF E size enc l))] (.any 1 0) [((1, 0), .fam (qF E size enc (l.take i ++ [x])))] := by
  intro o ho
  obtain ⟨c, y, z, ho, hc, ha, hat, hx⟩ := isApp_of ho
  rw [hx]
  obtain ⟨ie, zv, hi', hz, hsz, hzs, h0, hb⟩ := infoB_of hinf
  refine ⟨fun q hq => by rw [ho]; simp [Op.operands, Call.operands, hc, ha]; simpa using hq, fun ε ρ R w hx hM => ?_⟩
  simp only [List.map_cons, List.map_nil, SV.dens, SV.den, List.cons.injEq, and_true] at hx
  obtain ⟨hx, hy⟩ := hx
  have hM0 : Mem (rowC E size (asSl (ε 0 1).2) 1 (SV.dens ε cs) :: qcC E size (ε 0 0).2 l.length (cellsL enc l) :: R) w := hM
  rw [hcs] at hM0
  have hM1 := (mem_perm (List.Perm.swap _ _ _) hM0).weaken (c' := qcC E size (winV (ε 0 0).2 size 0 i) i ((cellsL enc l).take (i * size))) fun S hS => ⟨fun g hg => hS.1 g (ownBlock_win hg hS.2.is), hS.2.head hi⟩
  have hM := mem_perm (List.Perm.swap _ _ _) hM1
  rw [cellsL_take hk] at hM
  have hli : (l.take i).length = i := by rw [List.length_take]; omega
  obtain ⟨c', hv⟩ := row_elem (hM.owns 0 rfl) 0 (by omega) h0
  have hrow := hM.owns 0 rfl
  have hS : Go.Src P size t (asSl (ε 0 1).2) 1 (enc x) w := by
    rw [hv]
    exact Go.Src.ofSlice (P := P) w hT _ 1 c' _ (by rw [hk, Nat.one_mul]) (fun j u' hj => by
      have := row_at hrow hj
      rw [adOf_asSl] at this
      rw [addr_add]; exact this) h1
  obtain ⟨v', w', hr, hm⟩ := Mem.appQ hM 1 rfl (ty := o.type) (bytes := ie.bytes) hT (by rw [hi']; simp [hz, hsz]) hS (by omega) hzs (by simp only [maxLen]; omega) (by
    have : (i + 1) * ie.bytes ≤ 1073741824 * 131072 := Nat.mul_le_mul hn hb
    omega)
  refine res_ok (x_append ho hc ha hat hx hy hr) ⟨fun _ => (0, v'), by simp only [SV.den, eset_at], ?_⟩
  have hm : Mem (rowC E size (asSl (ε 0 1).2) 1 (enc x) :: qcC E size v' (i + 1) (cellsL enc (l.take i) ++ enc x) :: R) w' := hm
  have e1 : cellsL enc (l.take i ++ [x]) = cellsL enc (l.take i) ++ enc x := by rw [cellsL_app]; unfold cellsL; simp
  show Mem (rowC E size (asSl (eset ε 1 (fun _ => (0, v')) 0 1).2) 1 (SV.dens (eset ε 1 fun _ => (0, v')) cs) :: qcC E size (eset ε 1 (fun _ => (0, v')) 1 0).2 (l.take i ++ [x]).length (cellsL enc (l.take i ++ [x])) :: R) w'
  rw [eset_at, eset_ne (show (0 : Nat) ≠ 1 by decide), hcs, e1, List.length_append, hli]
  exact hm
theorem q_cat {t : TypeId} (l m : List α) (hk : ∀ x, (enc x).length = size) (h1 : ∀ x, ∀ u ∈ enc x, u.oneCell' = true) (hT : P.underlying t = some (.slice E)) (hinf : infoB P E size = true) (hn : l.length + m.length ≤ 1073741824) :
    OpG P (isApp P t t) lenX [.any 0 0, .any 0 1] [((0, 1), .fam (qF E size enc m))] [((0, 0), .fam (qF E size enc l))] (.any 1 0) [((1, 0), .fam (qF E size enc (l ++ m)))] := by
  intro o ho
  obtain ⟨c, y, z, ho, hc, ha, hat, hx⟩ := isApp_of ho
  rw [hx]
  obtain ⟨ie, zv, hi', hz, hsz, hzs, h0, hb⟩ := infoB_of hinf
  refine ⟨fun q hq => by rw [ho]; simp [Op.operands, Call.operands, hc, ha]; simpa using hq, fun ε ρ R w hx hM => ?_⟩
  simp only [List.map_cons, List.map_nil, SV.dens, SV.den, List.cons.injEq, and_true] at hx
  obtain ⟨hx, hy⟩ := hx
  have hM : Mem (qcC E size (ε 0 1).2 m.length (cellsL enc m) :: qcC E size (ε 0 0).2 l.length (cellsL enc l) :: R) w := hM
  have hq := Mem.qs hM 0 rfl
  have hS := hq.src (P := P) (i := 0) (Nat.zero_le _) (cellsL_one h1) hT
  have e0 : winV (ε 0 1).2 size 0 (m.length - 0) = (ε 0 1).2 := by
    obtain ⟨a, cp, hv, -⟩ := hq.isL
    rw [hv]; unfold winV
    cases a with
    | none => simp
    | some ad =>
      have : ad.add 0 = ad := by simp [Addr.add]
      simp [this]
  rw [e0, Nat.zero_mul, List.drop_zero, Nat.sub_zero] at hS
  rcases Nat.eq_zero_or_pos m.length with h0m | h0m
  · have hm0 : m = [] := List.length_eq_zero_iff.1 h0m
    subst hm0
    obtain ⟨a, cp, hv, hle⟩ := (Mem.qs hM 1 rfl).isL
    subst hsz
    have hr := run_append_nothing (P := P) w t t o.type E ie hT hi' a l.length cp hle (ε 0 1).2 hS
    rw [← hv] at hr
    refine res_ok (x_append ho hc ha hat hx hy hr) ⟨fun _ => (0, (ε 0 0).2), by simp only [SV.den, eset_at], ?_⟩
    show Mem (qcC E ie.size (eset ε 1 (fun _ => (0, (ε 0 0).2)) 0 1).2 0 [] :: qcC E ie.size (eset ε 1 (fun _ => (0, (ε 0 0).2)) 1 0).2 (l ++ []).length (cellsL enc (l ++ [])) :: R) w
    rw [eset_at, eset_ne (show (0 : Nat) ≠ 1 by decide), List.append_nil]
    exact hM
  · obtain ⟨v', w', hr, hm⟩ := Mem.appQ hM 1 rfl (ty := o.type) (bytes := ie.bytes) hT (by rw [hi']; simp [hz, hsz]) hS h0m hzs (by simp only [maxLen]; omega) (by
      have : (l.length + m.length) * ie.bytes ≤ 1073741824 * 131072 := Nat.mul_le_mul hn hb
      omega)
    refine res_ok (x_append ho hc ha hat hx hy hr) ⟨fun _ => (0, v'), by simp only [SV.den, eset_at], ?_⟩
    have hm : Mem (qcC E size (ε 0 1).2 m.length (cellsL enc m) :: qcC E size v' (l.length + m.length) (cellsL enc l ++ cellsL enc m) :: R) w' := hm
    show Mem (qcC E size (eset ε 1 (fun _ => (0, v')) 0 1).2 m.length (cellsL enc m) :: qcC E size (eset ε 1 (fun _ => (0, v')) 1 0).2 (l ++ m).length (cellsL enc (l ++ m)) :: R) w'
    rw [eset_at, eset_ne (show (0 : Nat) ≠ 1 by decide), cellsL_app, List.length_append]
    exact hm
theorem q_put {t : TypeId} {off : Nat} {cs cs' : List SV} (l : List α) (ht : (P.info? t).map (·.size) = some 1) (hoff : off + 1 ≤ cs.length) (hcs : overS cs off [.any 0 9] = cs') (hok : SV.oks (ltB 1) cs' = true) :
    OpG P (isSto t) stoXY [.ptr 0 0 off, .any 0 9] [((0, 9), .fam (qF E size enc l))] [((0, 0), .box none cs)] (.val undef) [((0, 0), .box none cs')] := by
  intro o ho
  unfold isSto at ho
  split at ho <;> try (cases ho; done)
  rename_i t' x y hop
  have e1 := Nat.eq_of_beq_eq_true ho
  subst e1
  have hx' : stoXY o = [x, y] := by unfold stoXY; rw [hop]
  rw [hx']
  refine ⟨fun z hz => by rw [hop]; simp [Op.operands]; simpa using hz, fun ε ρ R w hx hM => ?_⟩
  simp only [List.map_cons, List.map_nil, SV.dens, SV.den, List.cons.injEq, and_true] at hx
  have hM : Mem (qcC E size (ε 0 9).2 l.length (cellsL enc l) :: boxE none (ε 0 0).1 (SV.dens ε cs).toArray :: R) w := hM
  obtain ⟨a, c, hv⟩ := (Mem.qs hM 0 rfl).is
  obtain ⟨w', hr, hm⟩ := Mem.store (P := P) hM 1 rfl t off (ε 0 9).2 [(ε 0 9).2] (by rw [hv]; rfl) ht (by simp [dens_length]; omega) (by rw [hv]; rfl)
  refine res_st (x_store hop hx.1 hx.2 hr) ⟨fun _ => (0, undef), by simp only [SV.den], ?_⟩
  have key : ∀ s k, ltB 1 s k = true → ε s k = eset ε 1 (fun _ => (0, undef)) s k := fun s k hs => by
    rw [eset_ne (by have := ltB_iff.1 hs; omega)]
  have e3 : SV.dens (eset ε 1 fun _ => (0, undef)) cs' = SV.dens ε cs' := (SV.dens_congr key cs' hok).symm
  show Mem (qcC E size (eset ε 1 (fun _ => (0, undef)) 0 9).2 l.length (cellsL enc l) :: boxE none (eset ε 1 (fun _ => (0, undef)) 0 0).1 (SV.dens (eset ε 1 fun _ => (0, undef)) cs').toArray :: R) w'
  rw [e3, eset_ne (show (0 : Nat) ≠ 1 by decide), ← hcs, ← overS_den]
  simp only [SV.dens, SV.den]
  exact hm
end
end Go.Sx
end
