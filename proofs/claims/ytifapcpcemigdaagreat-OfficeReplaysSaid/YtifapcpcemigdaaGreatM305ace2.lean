/- Ky6, Sm0, Sm1, Sm2, Sm3, Sm4, EbW0, Open, OpA, EaP, Of7. -/
import Derived.Test.YtifapcpcemigdaaGreatMfe2533a
import Derived.Test.YtifapcpcemigdaaGreatMf331612
import Derived.Test.YtifapcpcemigdaaGreatM50f98c5
import Derived.Test.YtifapcpcemigdaaGreatM3e71795
import Derived.ChangeKeysEq
import Derived.Test.YtifapcpcemigdaaGreatM2efc9fd
import Derived.WideShapes
import Derived.Lib.SmallJoins
import Derived.Test.YtifapcpcemigdaaGreatM533403a
import Derived.Test.YtifapcpcemigdaaGreatMb930152
set_option maxRecDepth 100000
set_option linter.unusedVariables false
set_option linter.unusedSimpArgs false
set_option linter.unusedSectionVars false
section
namespace Go.Proofs.YtifapcpcemigdaaGreat
open Go.RowKit Go.Lib Go.Tk Go.Shelf Go.Vc Go.Sx Go.Maps
def tidR (l : List Tid) : SC := .row 35 2 l.length (.shal (cellsL tcL l)) []
def serials (n : Nat) : List Int := (List.range n).map fun i : Nat => (i : Int) + 1
theorem serials_sorted (n : Nat) : sortBy cmpI (serials n) = serials n := by
  refine sortBy_self swoI totI ?_
  unfold serials
  rw [List.pairwise_map]
  refine List.Pairwise.imp ?_ (List.pairwise_lt_range (n := n))
  intro a b h
  rw [ltI]
  simp
  omega
theorem docs_tids {B : BookV} (hb : BookOk B) : B.docs.map (·.t) = (serials B.docs.length).map (Tid.mk B.self) := by
  unfold serials
  rw [List.map_map]
  refine List.ext_getElem? fun i => ?_
  rw [List.getElem?_map, List.getElem?_map]
  by_cases h : i < B.docs.length
  · rw [List.getElem?_eq_getElem h, List.getElem?_range h]
    have := hb.docs i _ (List.getElem?_eq_getElem h)
    simp only [Option.map_some, Function.comp, this]
  · rw [List.getElem?_eq_none (by omega), List.getElem?_eq_none (by rw [List.length_range]; omega)]; rfl
theorem tickets_c {B : BookV} (hb : BookOk B) : CallOK Tryz.prog TicketsF [.ptr 0 0 0] [] (bkC B) (.raw 1 0) (bkC B ++ [((1, 0), tidR (B.docs.map (·.t)))]) := by
  refine shut (bkX fun L hL => ?_) rfl rfl rfl rfl
  have hlen : L.length = B.docs.length := by rw [← hL, List.length_map]
  have h := tickets_w (docsF L) B (L := ents docW (docKV L)) (c := B.self) (rs := serials B.docs.length) docsG_at (by
    rw [← docs_tids hb, ← hL]
    unfold ents docKV
    simp only [List.map_map]; rfl) (by have := hb.many; simp only [ents, docKV, List.length_map]; omega)
  rw [serials_sorted, ← docs_tids hb] at h
  have hl : (serials B.docs.length).length = (B.docs.map (·.t)).length := by unfold serials; simp
  rw [hl] at h
  exact h.of_rd.post_mono fun ε R w hM => by
    have hM : Mem (_ :: docsF L (ε 0 1).1 (ε 0 1).2 :: _) w := hM
    have h1 := hM.front 1 rfl
    have h2 : Mem (docsX B.docs (ε 0 1).1 (ε 0 1).2 :: _) w := Mem.in_ex ⟨L, hL⟩ h1
    exact h2.front 1 rfl
end Go.Proofs.YtifapcpcemigdaaGreat
end
section
namespace Go.Proofs.YtifapcpcemigdaaGreat
open Go.RowKit Go.Lib Go.Tk Go.Shelf Go.Vc Go.Sx Go.Maps
theorem len_val {kt : TypeId} {κ : Type} {K : KeyKind Tryz.prog kt κ} {m j n : Nat} {L : List (κ × Value)} (hn : L.length = n) :
    OpG Tryz.prog (isLenM Tryz.prog) lenX [.val (.map (some m))] [((0, j), .fam fun _ _ => mapC K m L)] [] (.val (.int .i64 (n : Int))) [] := by
  intro o ho
  unfold isLenM at ho
  split at ho <;> try (cases ho; done)
  rename_i c hop
  split at ho <;> try (cases ho; done)
  rename_i hc
  split at ho <;> try (cases ho; done)
  rename_i x t' ha ht
  split at ho <;> try (cases ho; done)
  rename_i k' e' hT
  have hx' : lenX o = [x] := by unfold lenX; rw [hop]; exact ha
  rw [hx']
  refine ⟨fun q hq => by rw [hop]; simp [Op.operands, Call.operands, hc]; have := arr_one ha; rw [this]; simpa using hq, fun ε ρ R w hx hM => ?_⟩
  simp only [List.map_cons, List.map_nil, SV.dens, SV.den, List.cons.injEq, and_true] at hx
  have hM : Mem (mapC K m L :: R) w := hM
  obtain ⟨es, clock, hb, hp, -⟩ := hM.of 0 rfl (φ := MapAt K w m L) (fun S hS => hS.2)
  have hlen : es.size = n := by have := hp.length_eq; simp at this; omega
  have := x_lenM (P := Tryz.prog) (ρ := ρ) (o := o) (w := w) hop hc (arr_one ha) ht hx hT hb
  rw [hlen] at this
  exact res_ok this ⟨fun _ => (0, undef), by simp only [SV.den], hM⟩
def sameM {κ α : Type} [DecidableEq κ] [DecidableEq α] (L M : List (κ × α)) : Bool := decide (L.length = M.length) && L.all fun p => decide (lkt M p.1 = some p.2)
theorem sameM_self {κ α : Type} [DecidableEq κ] [DecidableEq α] {L : List (κ × α)} (h : (L.map (·.1)).Nodup) : sameM L L = true := by
  unfold sameM
  rw [decide_eq_true rfl, Bool.true_and, List.all_eq_true]
  exact fun p hp => decide_eq_true (lkt_of h hp)
theorem sameM_len {κ α : Type} [DecidableEq κ] [DecidableEq α] {L M : List (κ × α)} (h : L.length ≠ M.length) : sameM L M = false := by
  unfold sameM; rw [decide_eq_false h]; rfl
theorem sameM_bad {κ α : Type} [DecidableEq κ] [DecidableEq α] {L M : List (κ × α)} {p : κ × α} (hp : p ∈ L) (h : lkt M p.1 ≠ some p.2) : sameM L M = false := by
  unfold sameM
  rw [Bool.and_eq_false_iff]
  refine .inr ?_
  rw [Bool.eq_false_iff]
  intro e
  exact h (of_decide_eq_true (List.all_eq_true.1 e p hp))
theorem sameM_mk {κ α : Type} [DecidableEq κ] [DecidableEq α] {L M : List (κ × α)} (hl : L.length = M.length) (h : ∀ p ∈ L, lkt M p.1 = some p.2) : sameM L M = true := by
  unfold sameM
  rw [decide_eq_true hl, Bool.true_and, List.all_eq_true]
  exact fun p hp => decide_eq_true (h p hp)
def legEq (a b : Leg) : Bool := decide (a.c = b.c) && (decide (a.f = b.f) && (decide (a.x = b.x) && true))
def cpnEq (a b : Cpn) : Bool := legEq a.l b.l && (decide (a.v = b.v) && (decide (a.s = b.s) && (decide (a.n = b.n) && true)))
def ownEq (a b : OwnV) : Bool := cpnEq a.k b.k && ((a.away == b.away) && (decide (a.dst = b.dst) && ((a.paid == b.paid) && ((a.asked == b.asked) && true))))
def heldEq (a b : HeldV) : Bool := cpnEq a.k b.k && ((a.here == b.here) && ((a.paid == b.paid) && ((a.wanted == b.wanted) && ((a.billed == b.billed) && true))))
theorem cpnEq_iff (a b : Cpn) : cpnEq a b = true ↔ a = b := by
  obtain ⟨⟨a1, a2, a3⟩, a4, a5, a6⟩ := a
  obtain ⟨⟨b1, b2, b3⟩, b4, b5, b6⟩ := b
  simp [cpnEq, legEq, and_assoc]
theorem ownEq_iff (a b : OwnV) : ownEq a b = true ↔ a = b := by
  obtain ⟨a1, a2, a3, a4, a5⟩ := a
  obtain ⟨b1, b2, b3, b4, b5⟩ := b
  unfold ownEq
  rw [Bool.and_eq_true, cpnEq_iff]
  simp
theorem heldEq_iff (a b : HeldV) : heldEq a b = true ↔ a = b := by
  obtain ⟨a1, a2, a3, a4, a5⟩ := a
  obtain ⟨b1, b2, b3, b4, b5⟩ := b
  unfold heldEq
  rw [Bool.and_eq_true, cpnEq_iff]
  simp
theorem ownEq_no {a b : OwnV} (h : a ≠ b) : ownEq a b = false := by
  cases e : ownEq a b with
  | false => rfl
  | true => exact absurd ((ownEq_iff a b).1 e) h
theorem heldEq_no {a b : HeldV} (h : a ≠ b) : heldEq a b = false := by
  cases e : heldEq a b with
  | false => rfl
  | true => exact absurd ((heldEq_iff a b).1 e) h
theorem map_facts {kt : TypeId} {κ α : Type} {K : KeyKind Tryz.prog kt κ} {enc : α → Value} {L : List (κ × α)} {m : Nat} {R : List Chunk} {w : World} (h : Mem (mapC K m (ents enc L) :: R) w) : (L.map (·.1)).Nodup ∧ ∀ p ∈ L, K.ok p.1 := by
  obtain ⟨es, clock, hb, hp, hn, hk, -⟩ := h.of 0 rfl (φ := MapAt K w m (ents enc L)) (fun S hS => hS.2)
  refine ⟨by unfold ents at hn; rwa [List.map_map] at hn, fun p hp' => ?_⟩
  exact hk (p.1, enc p.2) (List.mem_map_of_mem (f := fun p : κ × α => (p.1, enc p.2)) hp')
end Go.Proofs.YtifapcpcemigdaaGreat
end
section
namespace Go.Proofs.YtifapcpcemigdaaGreat
open Go.RowKit Go.Lib Go.Tk Go.Shelf Go.Vc Go.Sx Go.Maps
def EqO : Nat := 78
theorem eqO_w (m : Nat) (L M : OwnsV) : CallOK Tryz.prog EqO [.val (.map (some m)), .map 0 7] [((0, 7), ownsF M)] [((0, 5), .fam fun _ _ => mapC kidK m (ents ownW L))] (.val (.bool (sameM L M))) [((0, 5), .fam fun _ _ => mapC kidK m (ents ownW L))] := by
  have l1 := len_val (K := kidK) (m := m) (j := 5) (n := L.length) (L := ents ownW L) (by simp [ents])
  have l2 := len_map (P := Tryz.prog) (K := kidK) (enc := ownW) M
  by_cases hl : L.length = M.length
  case neg =>
    rw [sameM_len hl]
    have q0 : (!decide ((L.length : Int) = (M.length : Int))) = true := by simp; omega
    exact callOK_run 400 [hG 1 1 l1, hG 1 3 l2, hB 1 4 _ _ q0] (by kernel_rfl) (by kernel_rfl)
  have q0 : (!decide ((L.length : Int) = (M.length : Int))) = false := by simp; omega
  refine callOK_intro (by kernel_rfl) fun eb R => ?_
  refine go_open (X := { u : Unit // (L.map (·.1)).Nodup ∧ ∀ p ∈ L, KidOk p.1 }) (fun _ => [((0, 5), .fam fun _ _ => mapC kidK m (ents ownW L)), ((0, 7), ownsF M)])
    (fun ε w hM => by
      have hM : Mem (mapT kidK ownW M (ε 0 7).1 (ε 0 7).2 :: mapC kidK m (ents ownW L) :: R) w := hM
      have h1 := hM.front 1 rfl
      exact ⟨⟨(), map_facts h1⟩, h1⟩) (fun _ => by kernel_rfl) ?_
  rintro ⟨-, hn, hok⟩
  have r1 := rangeG (P := Tryz.prog) (K := kidK) (t := OT) (m := m) (j := 5) (L := ents ownW L) Tryz.underlying97
  have d1 := next_doneG (P := Tryz.prog) (K := kidK) (m := m) (L := ents ownW L)
  refine go_loop (X := { x : OwnsV × OwnsV // L.Perm (x.1 ++ x.2) ∧ ∀ p ∈ x.1, lkt M p.1 = some p.2 }) 0 [] (fun x => ([(1, .map 0 7), (15, .ptr 1 9 0)],
      [((0, 7), ownsF M), ((1, 9), .fam fun r _ => rngC kidK r m (ents ownW L) (ents ownW x.1.2))]))
    (fun x => x.1.2.length) ⟨([], L), List.Perm.refl _, fun p hp => by cases hp⟩ calNone false 400 [hG 1 1 l1, hG 1 3 l2, hB 1 4 _ _ q0, hG 3 1 r1] calNone_ok (by kernel_rfl) ?_
  rintro ⟨⟨done, left⟩, hd, hdone⟩ J hJ
  have back : ∀ {left : OwnsV} (b : Bool), Go Tryz.prog EqO (.val (.bool b)) ([((0, 7), ownsF M)] ++ [((0, 5), .fam fun _ _ => mapC kidK m (ents ownW L))]) eb R .nrm (rgK Tryz.prog EqO (bif b then 9 else 8) [J]) [] [((0, 7), ownsF M), ((1, 9), .fam fun r _ => rngC kidK r m (ents ownW L) (ents ownW left))] := fun {left} b => by
    refine go_open (X := Unit) (fun _ => [((0, 7), ownsF M), ((0, 5), .fam fun _ _ => mapC kidK m (ents ownW L))]) (fun ε w hM => ⟨(), by
      have hM : Mem (mapT kidK ownW M (ε 0 7).1 (ε 0 7).2 :: rngC kidK (ε 1 9).1 m (ents ownW L) (ents ownW left) :: R) w := hM
      exact ((hM.front 1 rfl).weaken (c' := mapC kidK m (ents ownW L)) fun S hS => ⟨hS.2.1, hS.2.2.map⟩).front 1 rfl⟩) (fun _ => by kernel_rfl) fun _ => ?_
    cases b
    · exact leaf_end calNone false 400 [] calNone_ok (by kernel_rfl)
    · exact leaf_end calNone false 400 [] calNone_ok (by kernel_rfl)
  cases left with
  | cons x l =>
    have m1 := next_moreG (P := Tryz.prog) (K := kidK) (m := m) (L := ents ownW L) (left := ents ownW (x :: l)) (by simp [ents])
    refine leaf_cut (rgK Tryz.prog EqO 5 [J]) [(1, .map 0 7), (15, .ptr 1 9 0)]
      [((1, 9), .fam fun r _ => exC fun (y : (Kid × Value) × List (Kid × Value)) => curC kidK r m (ents ownW L) (ents ownW (x :: l)) y.1 y.2), ((0, 7), ownsF M)]
      calNone false 400 [hG 4 0 m1, .stop 5] calNone_ok (by kernel_rfl) ?_
    refine go_open (X := { y : (Kid × OwnV) × OwnsV // (x :: l).Perm (y.1 :: y.2) }) (fun y => [((1, 9), .fam fun r _ => curC kidK r m (ents ownW L) (ents ownW (x :: l)) (y.1.1.1, ownW y.1.1.2) (ents ownW y.1.2)), ((0, 7), ownsF M)])
      (fun ε w hM => cur_typed hM) (fun y => by kernel_rfl) ?_
    rintro ⟨⟨⟨k, o⟩, l'⟩, hp⟩
    have g1 := entryG (P := Tryz.prog) (K := kidK) (m := m) (L := ents ownW L) (left := ents ownW (x :: l)) (left' := ents ownW l') (p := (k, ownW o)) (ks := .agg (kidS k)) (vs := .agg (ownS o)) (fun _ => rfl) (fun _ => rfl)
    have hd' : L.Perm ((done ++ [(k, o)]) ++ l') := by
      rw [List.append_assoc]
      exact hd.trans (List.Perm.append_left done hp)
    have hlt : l'.length < (x :: l).length := by have := hp.length_eq; simp only [List.length_cons] at this ⊢; omega
    have hmem : (k, o) ∈ L := hd'.mem_iff.2 (by simp)
    have c1 := look_owns M (hok _ hmem)
    cases hk : lkt M k with
    | none =>
      rw [hk] at c1
      rw [sameM_bad hmem (by rw [hk]; simp)]
      exact leaf_cut (rgK Tryz.prog EqO 8 [J]) _ _ calNone false 400 [hG 5 0 g1, hG 6 2 c1, .stop 8] calNone_ok (by kernel_rfl) (back (left := l') false)
    | some o' =>
      rw [hk] at c1
      by_cases he : o = o'
      · subst he
        have e1 : (!ownEq o o) = false := by rw [(ownEq_iff o o).2 rfl]; rfl
        unfold ownEq cpnEq legEq at e1
        exact leaf_round (lpK Tryz.prog EqO 0 []) false 400 [hG 5 0 g1, hG 6 2 c1, hB 7 5 _ _ e1] (hJ ⟨(done ++ [(k, o)], l'), hd', fun p hp => by
          rcases List.mem_append.1 hp with hp | hp
          · exact hdone p hp
          · rw [List.mem_singleton.1 hp]; exact hk⟩ hlt) (by kernel_rfl)
      · rw [sameM_bad hmem (by rw [hk]; intro e; cases e; exact he rfl)]
        have e1 : (!ownEq o o') = true := by rw [ownEq_no he]; rfl
        unfold ownEq cpnEq legEq at e1
        exact leaf_cut (rgK Tryz.prog EqO 8 [J]) _ _ calNone false 400 [hG 5 0 g1, hG 6 2 c1, hB 7 5 _ _ e1, .stop 8] calNone_ok (by kernel_rfl) (back (left := l') false)
  | nil =>
    rw [List.append_nil] at hd
    rw [sameM_mk hl fun p hp => hdone p (hd.mem_iff.1 hp)]
    exact leaf_cut (rgK Tryz.prog EqO 9 []) _ _ calNone false 400 [hG 4 0 d1, .stop 9] calNone_ok (by kernel_rfl) (back (left := []) true)
def EqH : Nat := 79
theorem eqH_w (m : Nat) (L M : HeldsV) : CallOK Tryz.prog EqH [.val (.map (some m)), .map 0 7] [((0, 7), heldsF M)] [((0, 6), .fam fun _ _ => mapC kidK m (ents heldW L))] (.val (.bool (sameM L M))) [((0, 6), .fam fun _ _ => mapC kidK m (ents heldW L))] := by
  have l1 := len_val (K := kidK) (m := m) (j := 6) (n := L.length) (L := ents heldW L) (by simp [ents])
  have l2 := len_map (P := Tryz.prog) (K := kidK) (enc := heldW) M
  by_cases hl : L.length = M.length
  case neg =>
    rw [sameM_len hl]
    have q0 : (!decide ((L.length : Int) = (M.length : Int))) = true := by simp; omega
    exact callOK_run 400 [hG 1 1 l1, hG 1 3 l2, hB 1 4 _ _ q0] (by kernel_rfl) (by kernel_rfl)
  have q0 : (!decide ((L.length : Int) = (M.length : Int))) = false := by simp; omega
  refine callOK_intro (by kernel_rfl) fun eb R => ?_
  refine go_open (X := { u : Unit // (L.map (·.1)).Nodup ∧ ∀ p ∈ L, KidOk p.1 }) (fun _ => [((0, 6), .fam fun _ _ => mapC kidK m (ents heldW L)), ((0, 7), heldsF M)])
    (fun ε w hM => by
      have hM : Mem (mapT kidK heldW M (ε 0 7).1 (ε 0 7).2 :: mapC kidK m (ents heldW L) :: R) w := hM
      have h1 := hM.front 1 rfl
      exact ⟨⟨(), map_facts h1⟩, h1⟩) (fun _ => by kernel_rfl) ?_
  rintro ⟨-, hn, hok⟩
  have r1 := rangeG (P := Tryz.prog) (K := kidK) (t := HT) (m := m) (j := 6) (L := ents heldW L) Tryz.underlying98
  have d1 := next_doneG (P := Tryz.prog) (K := kidK) (m := m) (L := ents heldW L)
  refine go_loop (X := { x : HeldsV × HeldsV // L.Perm (x.1 ++ x.2) ∧ ∀ p ∈ x.1, lkt M p.1 = some p.2 }) 0 [] (fun x => ([(1, .map 0 7), (15, .ptr 1 9 0)],
      [((0, 7), heldsF M), ((1, 9), .fam fun r _ => rngC kidK r m (ents heldW L) (ents heldW x.1.2))]))
    (fun x => x.1.2.length) ⟨([], L), List.Perm.refl _, fun p hp => by cases hp⟩ calNone false 400 [hG 1 1 l1, hG 1 3 l2, hB 1 4 _ _ q0, hG 3 1 r1] calNone_ok (by kernel_rfl) ?_
  rintro ⟨⟨done, left⟩, hd, hdone⟩ J hJ
  have back : ∀ {left : HeldsV} (b : Bool), Go Tryz.prog EqH (.val (.bool b)) ([((0, 7), heldsF M)] ++ [((0, 6), .fam fun _ _ => mapC kidK m (ents heldW L))]) eb R .nrm (rgK Tryz.prog EqH (bif b then 9 else 8) [J]) [] [((0, 7), heldsF M), ((1, 9), .fam fun r _ => rngC kidK r m (ents heldW L) (ents heldW left))] := fun {left} b => by
    refine go_open (X := Unit) (fun _ => [((0, 7), heldsF M), ((0, 6), .fam fun _ _ => mapC kidK m (ents heldW L))]) (fun ε w hM => ⟨(), by
      have hM : Mem (mapT kidK heldW M (ε 0 7).1 (ε 0 7).2 :: rngC kidK (ε 1 9).1 m (ents heldW L) (ents heldW left) :: R) w := hM
      exact ((hM.front 1 rfl).weaken (c' := mapC kidK m (ents heldW L)) fun S hS => ⟨hS.2.1, hS.2.2.map⟩).front 1 rfl⟩) (fun _ => by kernel_rfl) fun _ => ?_
    cases b
    · exact leaf_end calNone false 400 [] calNone_ok (by kernel_rfl)
    · exact leaf_end calNone false 400 [] calNone_ok (by kernel_rfl)
  cases left with
  | cons x l =>
    have m1 := next_moreG (P := Tryz.prog) (K := kidK) (m := m) (L := ents heldW L) (left := ents heldW (x :: l)) (by simp [ents])
    refine leaf_cut (rgK Tryz.prog EqH 5 [J]) [(1, .map 0 7), (15, .ptr 1 9 0)]
      [((1, 9), .fam fun r _ => exC fun (y : (Kid × Value) × List (Kid × Value)) => curC kidK r m (ents heldW L) (ents heldW (x :: l)) y.1 y.2), ((0, 7), heldsF M)]
      calNone false 400 [hG 4 0 m1, .stop 5] calNone_ok (by kernel_rfl) ?_
    refine go_open (X := { y : (Kid × HeldV) × HeldsV // (x :: l).Perm (y.1 :: y.2) }) (fun y => [((1, 9), .fam fun r _ => curC kidK r m (ents heldW L) (ents heldW (x :: l)) (y.1.1.1, heldW y.1.1.2) (ents heldW y.1.2)), ((0, 7), heldsF M)])
      (fun ε w hM => cur_typed hM) (fun y => by kernel_rfl) ?_
    rintro ⟨⟨⟨k, o⟩, l'⟩, hp⟩
    have g1 := entryG (P := Tryz.prog) (K := kidK) (m := m) (L := ents heldW L) (left := ents heldW (x :: l)) (left' := ents heldW l') (p := (k, heldW o)) (ks := .agg (kidS k)) (vs := .agg (heldS o)) (fun _ => rfl) (fun _ => rfl)
    have hd' : L.Perm ((done ++ [(k, o)]) ++ l') := by
      rw [List.append_assoc]
      exact hd.trans (List.Perm.append_left done hp)
    have hlt : l'.length < (x :: l).length := by have := hp.length_eq; simp only [List.length_cons] at this ⊢; omega
    have hmem : (k, o) ∈ L := hd'.mem_iff.2 (by simp)
    have c1 := look_helds M (hok _ hmem)
    cases hk : lkt M k with
    | none =>
      rw [hk] at c1
      rw [sameM_bad hmem (by rw [hk]; simp)]
      exact leaf_cut (rgK Tryz.prog EqH 8 [J]) _ _ calNone false 400 [hG 5 0 g1, hG 6 2 c1, .stop 8] calNone_ok (by kernel_rfl) (back (left := l') false)
    | some o' =>
      rw [hk] at c1
      by_cases he : o = o'
      · subst he
        have e1 : (!heldEq o o) = false := by rw [(heldEq_iff o o).2 rfl]; rfl
        unfold heldEq cpnEq legEq at e1
        exact leaf_round (lpK Tryz.prog EqH 0 []) false 400 [hG 5 0 g1, hG 6 2 c1, hB 7 5 _ _ e1] (hJ ⟨(done ++ [(k, o)], l'), hd', fun p hp => by
          rcases List.mem_append.1 hp with hp | hp
          · exact hdone p hp
          · rw [List.mem_singleton.1 hp]; exact hk⟩ hlt) (by kernel_rfl)
      · rw [sameM_bad hmem (by rw [hk]; intro e; cases e; exact he rfl)]
        have e1 : (!heldEq o o') = true := by rw [heldEq_no he]; rfl
        unfold heldEq cpnEq legEq at e1
        exact leaf_cut (rgK Tryz.prog EqH 8 [J]) _ _ calNone false 400 [hG 5 0 g1, hG 6 2 c1, hB 7 5 _ _ e1, .stop 8] calNone_ok (by kernel_rfl) (back (left := l') false)
  | nil =>
    rw [List.append_nil] at hd
    rw [sameM_mk hl fun p hp => hdone p (hd.mem_iff.1 hp)]
    exact leaf_cut (rgK Tryz.prog EqH 9 []) _ _ calNone false 400 [hG 4 0 d1, .stop 9] calNone_ok (by kernel_rfl) (back (left := []) true)
end Go.Proofs.YtifapcpcemigdaaGreat
end
section
namespace Go.Proofs.YtifapcpcemigdaaGreat
open Go.RowKit Go.Lib Go.Tk Go.Shelf Go.Vc Go.Sx Go.Maps
def TSameF : Nat := 119
theorem tsame_w (F1 F2 : CF) {s o : SaleV} {A B : SaleA} (h1 : ∀ b v, Rd (F1 b v) A.la (cellsL encLeg s.legs)) (h2 : ∀ b v, Rd (F1 b v) A.ta (cellsL encTax s.taxes)) (h3 : ∀ b v, Rd (F2 b v) B.la (cellsL encLeg o.legs)) (h4 : ∀ b v, Rd (F2 b v) B.ta (cellsL encTax o.taxes))
    (n1 : A.la = none → A.lc = 0) (n2 : A.ta = none → A.tc = 0) (n3 : B.la = none → B.lc = 0) (n4 : B.ta = none → B.tc = 0) (ok1 : SaleOk s) (ok2 : SaleOk o) :
    CallOK Tryz.prog TSameF [.agg (salS s (.val (.slice A.la s.legs.length A.lc)) (.val (.slice A.ta s.taxes.length A.tc))), .agg (salS o (.val (.slice B.la o.legs.length B.lc)) (.val (.slice B.ta o.taxes.length B.tc)))] [((0, 11), .fam F1), ((0, 7), .fam F2)] [] (.val (.bool (decide (s = o)))) [] := by
  intro ε R w hM
  have hM : Mem (F1 (ε 0 11).1 (ε 0 11).2 :: F2 (ε 0 7).1 (ε 0 7).2 :: R) w := hM
  have hs : SaleAt w s A := ⟨(h1 _ _).row hM 0 rfl, (h2 _ _).row hM 0 rfl, n1, n2⟩
  have ho : SaleAt w o B := ⟨(h3 _ _).row hM 1 rfl, (h4 _ _).row hM 1 rfl, n3, n4⟩
  refine (same_any s o A B w hs ho ok1.nl ok2.nl ok1.nt ok2.nt).mono ?_
  rintro e w' ⟨rfl, hb⟩
  exact ⟨ε 1, rfl, by rw [eset_self]; exact hM.kept hb⟩
def EqIF : Nat := 120
theorem i64_nth {l : List Int} {i : Nat} (h : i < l.length) : ∀ (ε : Env) (q : Nat) (v : SV), ([.val (.int .i64 (l.getD i 0))] : List SV)[q]? = some v → (l.map (Value.int .i64))[i * 1 + q]? = some (v.den ε) := by
  intro ε q v hv
  cases q with
  | zero =>
    cases hv
    rw [Nat.mul_one, Nat.add_zero, List.getElem?_map, getD_some h 0]; rfl
  | succ q => cases hv
theorem eqI_w (F1 F2 : CF) {a1 a2 : Option Addr} {c1 c2 : Nat} {xs ys : List Int} (h1 : ∀ b v, Rd (F1 b v) a1 (xs.map (.int .i64))) (h2 : ∀ b v, Rd (F2 b v) a2 (ys.map (.int .i64))) (hl : xs.length ≤ 1073741824) :
    CallOK Tryz.prog EqIF [.val (.slice a1 xs.length c1), .val (.slice a2 ys.length c2)] [((0, 11), .fam F1), ((0, 7), .fam F2)] [] (.val (.bool (decide (xs = ys)))) [] := by
  by_cases hn : xs.length = ys.length
  case neg =>
    have q0 : (!decide ((xs.length : Int) = (ys.length : Int))) = true := by simp; omega
    rw [decide_eq_false (show ¬ xs = ys from fun e => hn (by rw [e]))]
    exact callOK_run 400 [hB 1 4 _ _ q0] (by kernel_rfl) (by kernel_rfl)
  have q0 : (!decide ((xs.length : Int) = (ys.length : Int))) = false := by simp; omega
  refine callOK_intro (by kernel_rfl) fun eb R => ?_
  refine go_loop (X := { i : Nat // i ≤ xs.length ∧ ∀ j, j < i → xs.getD j 0 = ys.getD j 0 }) 0 [] (fun x => ([(0, .val (.slice a1 xs.length c1)), (1, .val (.slice a2 ys.length c2)), (12, .val (.int .i64 (xs.length : Int))), (13, .val (.int .i64 (x.1 : Int)))], [((0, 11), .fam F1), ((0, 7), .fam F2)])) (fun x => xs.length - x.1) ⟨0, Nat.zero_le _, fun j hj => absurd hj (Nat.not_lt_zero _)⟩ calNone false 400 [hB 1 4 _ _ q0] calNone_ok (by kernel_rfl) ?_
  rintro ⟨i, hi, hd⟩ J hJ
  by_cases h : i < xs.length
  · have z0 : decide ((i : Int) < (xs.length : Int)) = true := decide_eq_true (by omega)
    have h' : i < ys.length := by omega
    have q1 := idx_openG (P := Tryz.prog) (t := 60) (e := 2) (size := 1) (j := 11) (k := .i64) (cap := c1) (n := xs.length) Tryz.underlying60 (by kernel_rfl) (by rw [List.length_map, Nat.mul_one]) h1 h
    have q2 := load_openG0 (P := Tryz.prog) (t := 2) (k := i * 1) (j := 11) (cs := [.val (.int .i64 (xs.getD i 0))]) (u := .val (.int .i64 (xs.getD i 0))) (by kernel_rfl) h1 (i64_nth h) (by rw [List.length_map]; omega)
    have q3 := idx_openG (P := Tryz.prog) (t := 60) (e := 2) (size := 1) (j := 7) (k := .i64) (cap := c2) (n := ys.length) Tryz.underlying60 (by kernel_rfl) (by rw [List.length_map, Nat.mul_one]) h2 h'
    have q4 := load_openG0 (P := Tryz.prog) (t := 2) (k := i * 1) (j := 7) (cs := [.val (.int .i64 (ys.getD i 0))]) (u := .val (.int .i64 (ys.getD i 0))) (by kernel_rfl) h2 (i64_nth h') (by rw [List.length_map]; omega)
    have q5 : IntKind.i64.wrap ((i : Int) + 1) = ((i + 1 : Nat) : Int) := by rw [wr_i64 (by omega)]; omega
    by_cases e : xs.getD i 0 = ys.getD i 0
    · have q6 : (!decide (xs.getD i 0 = ys.getD i 0)) = false := by rw [decide_eq_true e]; rfl
      have he := hid e
      clear e
      have hJ' := hJ ⟨i + 1, h, fun j hj => by
        by_cases q : j = i
        · subst q; exact he.out
        · exact hd j (by omega)⟩ (by show _ - (i + 1) < _ - i; omega)
      exact leaf_round (lpK Tryz.prog EqIF 0 []) false 400 [hB 4 0 _ _ z0, hG 6 2 q1, hG 6 3 q2, hG 6 6 q3, hG 6 7 q4, hB 6 8 _ _ q6, hI 8 0 IntKind.i64 _ _ q5] hJ' (by kernel_rfl)
    · have q6 : (!decide (xs.getD i 0 = ys.getD i 0)) = true := by rw [decide_eq_false e]; rfl
      rw [decide_eq_false (show ¬ xs = ys from fun e' => e (by rw [e']))]
      exact leaf_end calNone false 400 [hB 4 0 _ _ z0, hG 6 2 q1, hG 6 3 q2, hG 6 6 q3, hG 6 7 q4, hB 6 8 _ _ q6] calNone_ok (by kernel_rfl)
  · have z0 : decide ((i : Int) < (xs.length : Int)) = false := decide_eq_false (by omega)
    rw [decide_eq_true (show xs = ys from by
      refine List.ext_getElem hn fun j h3 h4 => ?_
      have := hd j (by omega)
      rw [List.getD_eq_getElem?_getD, List.getD_eq_getElem?_getD, List.getElem?_eq_getElem h3, List.getElem?_eq_getElem h4] at this
      exact this)]
    exact leaf_end calNone false 400 [hB 4 0 _ _ z0] calNone_ok (by kernel_rfl)
def isEqA (t : Nat) (o : Oper) : Bool := match o.op with
  | .binOp .eql t' _ _ _ => Nat.beq t' t
  | _ => false
def eqXY (o : Oper) : List Operand := match o.op with
  | .binOp .eql _ x y _ => [x, y]
  | _ => []
theorem run_items {P : Program} {w : World} {e : TypeId} {k : IntKind} (d : Nat) (he : P.underlying e = some (.int k)) (hp : P.plainKey e = true) (xs ys : List Int) : ∀ is : List Nat, (∀ i ∈ is, i < xs.length ∧ i < ys.length) →
    (Op.eqItems (d + 1) e 1 (xs.map (.int k)).toArray (ys.map (.int k)).toArray is).run P w = .ok (is.all fun i => xs.getD i 0 == ys.getD i 0) w
  | [], _ => by simp [Op.eqItems]
  | i :: is, h => by
    have ih := run_items (w := w) d he hp xs ys is fun j hj => h j (List.mem_cons_of_mem _ hj)
    obtain ⟨h1, h2⟩ := h i List.mem_cons_self
    have p1 : (part e (xs.map (Value.int k)).toArray (i * 1)).run P w = .ok (.int k (xs.getD i 0)) w := run_part_plain w hp (by rw [Nat.mul_one]; simp [h1])
    have p2 : (part e (ys.map (Value.int k)).toArray (i * 1)).run P w = .ok (.int k (ys.getD i 0)) w := run_part_plain w hp (by rw [Nat.mul_one]; simp [h2])
    have p3 := run_equalIn_int (P := P) w d e k k (xs.getD i 0) (ys.getD i 0) he
    simp only [Op.eqItems, Sem.run_bind, p1, p2, p3, Result.andThen_ok, List.all_cons]
    cases xs.getD i 0 == ys.getD i 0
    · simp
    · simpa using ih
def fiveL (d : DocV) : List Int := [d.credit, d.paid, d.back, d.kept, d.left]
def i64S (l : List Int) : List SV := l.map fun x => .val (.int .i64 x)
theorem i64S_den (l : List Int) (ε : Env) : SV.dens ε (i64S l) = l.map (.int .i64) := by
  induction l with
  | nil => rfl
  | cons x l ih => show _ :: SV.dens ε (i64S l) = _; rw [ih]; rfl
theorem eq5_w (d e : DocV) : OpG Tryz.prog (isEqA 197) eqXY [.agg (i64S (fiveL d)), .agg (i64S (fiveL e))] [] [] (.val (.bool (decide (fiveL d = fiveL e)))) [] := by
  intro o ho
  unfold isEqA at ho
  split at ho <;> try (cases ho; done)
  rename_i t' x y t2 hop
  have e1 := Nat.eq_of_beq_eq_true ho
  subst e1
  have hx' : eqXY o = [x, y] := by unfold eqXY; rw [hop]
  rw [hx']
  refine eq_agg hop (by kernel_rfl) (fun ε => by simp only [SV.den]; rw [i64S_den]) (fun ε => by simp only [SV.den]; rw [i64S_den]) fun w => ?_
  rw [show (10000 : Nat) = 9999 + 1 from rfl, run_equalIn_array (P := Tryz.prog) w 9999 (n := 5) (e := 2) _ _ Tryz.underlying197 (show Tryz.prog.info? 2 = some _ from rfl)]
  rw [show Tryz.prog.cellsOf 2 = 1 by kernel_rfl, run_items 9998 Tryz.underlying2 (by kernel_rfl) (fiveL d) (fiveL e) (List.range 5) (fun i hi => by rw [List.mem_range] at hi; exact ⟨hi, hi⟩)]
  congr 1
  rw [Bool.eq_iff_iff, decide_eq_true_eq, List.all_eq_true]
  constructor
  · intro h
    refine List.ext_getElem rfl fun i h1 h2 => ?_
    have := h i (List.mem_range.2 h1)
    rw [List.getD_eq_getElem?_getD, List.getD_eq_getElem?_getD, List.getElem?_eq_getElem h1, List.getElem?_eq_getElem h2] at this
    simpa using this
  · intro h i _
    rw [h]; simp
end Go.Proofs.YtifapcpcemigdaaGreat
end
section
namespace Go.Proofs.YtifapcpcemigdaaGreat
open Go.RowKit Go.Lib Go.Tk Go.Shelf Go.Vc Go.Sx Go.Maps
def AlikeF : Nat := 77
structure DocRd (F : CF) (d : DocV) (a : DocA) : Prop where
  hl : ∀ b v, Rd (F b v) a.la (cellsL encLeg d.s.legs)
  ht : ∀ b v, Rd (F b v) a.ta (cellsL encTax d.s.taxes)
  hv : ∀ b v, Rd (F b v) a.va (d.vals.map (.int .i64))
  nl : a.la = none → a.lc = 0
  nt : a.ta = none → a.tc = 0
def tEq (a b : Tid) : Bool := decide (a.c = b.c) && (decide (a.r = b.r) && true)
theorem tEq_iff (a b : Tid) : tEq a b = true ↔ a = b := by
  obtain ⟨a1, a2⟩ := a
  obtain ⟨b1, b2⟩ := b
  simp [tEq]
theorem tEq_no {a b : Tid} (h : tEq a b = false) : a ≠ b := fun e => by rw [(tEq_iff a b).2 e] at h; cases h
theorem alike_w (F1 F2 : CF) {d e : DocV} {a b : DocA} (r1 : DocRd F1 d a) (r2 : DocRd F2 e b) (ok1 : SaleOk d.s) (ok2 : SaleOk e.s) (hv : d.vals.length ≤ 1073741824) :
    CallOK Tryz.prog AlikeF [.agg (docSA d a), .agg (docSA e b)] [((0, 11), .fam F1), ((0, 7), .fam F2)] [] (.val (.bool (decide (d = e)))) [] := by
  have c1 := tsame_w F1 F2 (A := ⟨a.la, a.lc, a.ta, a.tc⟩) (B := ⟨b.la, b.lc, b.ta, b.tc⟩) r1.hl r1.ht r2.hl r2.ht r1.nl r1.nt r2.nl r2.nt ok1 ok2
  have c2 := eqI_w F1 F2 (c1 := a.vc) (c2 := b.vc) r1.hv r2.hv hv
  have c3 := eq5_w d e
  have no : d ≠ e → (false : Bool) = decide (d = e) := fun h => (decide_eq_false h).symm
  rcases Bool.eq_false_or_eq_true (decide (d.s = e.s)) with h1 | h1
  case inr =>
    rw [← no fun q => of_decide_eq_false h1 (by rw [q])]
    exact callOK_run 400 [hC 1 4 c1, hB 1 4 _ _ h1] (by kernel_rfl) (by kernel_rfl)
  rcases Bool.eq_false_or_eq_true (decide (d.vals = e.vals)) with h2 | h2
  case inr =>
    rw [← no fun q => of_decide_eq_false h2 (by rw [q])]
    exact callOK_run 400 [hC 1 4 c1, hB 1 4 _ _ h1, hC 1 10 c2, hB 1 10 _ _ h2] (by kernel_rfl) (by kernel_rfl)
  rcases Bool.eq_false_or_eq_true (tEq d.t e.t) with h3 | h3
  case inr =>
    rw [← no fun q => tEq_no h3 (by rw [q])]
    unfold tEq at h3
    exact callOK_run 400 [hC 1 4 c1, hB 1 4 _ _ h1, hC 1 10 c2, hB 1 10 _ _ h2, hB 1 17 _ _ h3] (by kernel_rfl) (by kernel_rfl)
  rcases Bool.eq_false_or_eq_true (tEq d.frm e.frm) with h4 | h4
  case inr =>
    rw [← no fun q => tEq_no h4 (by rw [q])]
    unfold tEq at h3 h4
    exact callOK_run 400 [hC 1 4 c1, hB 1 4 _ _ h1, hC 1 10 c2, hB 1 10 _ _ h2, hB 1 17 _ _ h3, hB 1 24 _ _ h4] (by kernel_rfl) (by kernel_rfl)
  rcases Bool.eq_false_or_eq_true (tEq d.dst e.dst) with h5 | h5
  case inr =>
    rw [← no fun q => tEq_no h5 (by rw [q])]
    unfold tEq at h3 h4 h5
    exact callOK_run 400 [hC 1 4 c1, hB 1 4 _ _ h1, hC 1 10 c2, hB 1 10 _ _ h2, hB 1 17 _ _ h3, hB 1 24 _ _ h4, hB 1 31 _ _ h5] (by kernel_rfl) (by kernel_rfl)
  rcases Bool.eq_false_or_eq_true (decide (fiveL d = fiveL e)) with h6 | h6
  case inr =>
    rw [← no fun q => of_decide_eq_false h6 (by rw [q])]
    unfold tEq at h3 h4 h5
    exact callOK_run 400 [hC 1 4 c1, hB 1 4 _ _ h1, hC 1 10 c2, hB 1 10 _ _ h2, hB 1 17 _ _ h3, hB 1 24 _ _ h4, hB 1 31 _ _ h5, hG 1 56 c3, hB 1 56 _ _ h6] (by kernel_rfl) (by kernel_rfl)
  have he : d = e := by
    have g1 := of_decide_eq_true h1
    have g2 := of_decide_eq_true h2
    have g3 := (tEq_iff _ _).1 h3
    have g4 := (tEq_iff _ _).1 h4
    have g5 := (tEq_iff _ _).1 h5
    have g6 := of_decide_eq_true h6
    obtain ⟨t, s, vs, f, x, q1, q2, q3, q4, q5⟩ := d
    obtain ⟨t', s', vs', f', x', p1, p2, p3, p4, p5⟩ := e
    simp only [fiveL, List.cons.injEq, and_true] at g6
    simp only at g1 g2 g3 g4 g5
    obtain ⟨k1, k2, k3, k4, k5⟩ := g6
    subst g1 g2 g3 g4 g5 k1 k2 k3 k4 k5
    rfl
  rw [decide_eq_true he]
  clear he no
  unfold tEq at h3 h4 h5
  exact callOK_run 400 [hC 1 4 c1, hB 1 4 _ _ h1, hC 1 10 c2, hB 1 10 _ _ h2, hB 1 17 _ _ h3, hB 1 24 _ _ h4, hB 1 31 _ _ h5, hG 1 56 c3, hB 1 56 _ _ h6] (by kernel_rfl) (by kernel_rfl)
def dKV (ds : List DocV) : List (Tid × DocV) := ds.map fun d => (d.t, d)
theorem lkt_dKV (t : Tid) : ∀ M : List (DocV × DocA), lkt (dKV (M.map (·.1))) t = (lkt (docKV M) t).map (·.1)
  | [] => rfl
  | p :: M => by
    show (if p.1.t = t then some p.1 else lkt (dKV (M.map (·.1))) t) = ((if p.1.t = t then some p else lkt (docKV M) t) : Option (DocV × DocA)).map (·.1)
    rw [lkt_dKV t M]
    split <;> rfl
structure DocsOk (L : List (DocV × DocA)) : Prop where
  sal : ∀ p ∈ L, SaleOk p.1.s
  vl : ∀ p ∈ L, p.1.vals.length ≤ 1073741824
def NilsOk (p : DocV × DocA) : Prop := (p.2.la = none → p.2.lc = 0) ∧ (p.2.ta = none → p.2.tc = 0)
theorem rows_rd {L : List (DocV × DocA)} {p : DocV × DocA} (hp : p ∈ L) (hn : NilsOk p) : DocRd (fun _ _ => rowsC L) p.1 p.2 :=
  ⟨fun b v S w h => (h p hp).legs, fun b v S w h => (h p hp).taxes, fun b v S w h => (h p hp).vals, hn.1, hn.2⟩
theorem docsF_rd {L : List (DocV × DocA)} {p : DocV × DocA} (hp : p ∈ L) (hn : NilsOk p) : DocRd (docsF L) p.1 p.2 := by
  have h := docs_rd (L := L) (M := []) (.inl hp)
  exact ⟨h.1, h.2.1, h.2.2, hn.1, hn.2⟩
def EqDF : Nat := 76
theorem eqD_w (m : Nat) (L M : List (DocV × DocA)) (ok1 : DocsOk L) (ok2 : DocsOk M) : CallOK Tryz.prog EqDF [.val (.map (some m)), .map 0 7, .fn (.func AlikeF) [] []] [((0, 11), .fam fun _ _ => rowsC L), ((0, 7), .fam (docsF M))] [((0, 12), .fam fun _ _ => mapC tidK m (ents docW (docKV L)))]
    (.val (.bool (sameM (dKV (L.map (·.1))) (dKV (M.map (·.1)))))) [((0, 12), .fam fun _ _ => mapC tidK m (ents docW (docKV L)))] := by
  have l1 := len_val (K := tidK) (m := m) (j := 12) (n := L.length) (L := ents docW (docKV L)) (by simp [ents, docKV])
  have l2 := len_docs M []
  have e1 : (dKV (L.map (·.1))).length = L.length := by simp [dKV]
  have e2 : (dKV (M.map (·.1))).length = M.length := by simp [dKV]
  by_cases hl : L.length = M.length
  case neg =>
    rw [sameM_len (by rw [e1, e2]; exact hl)]
    clear e1 e2
    have q0 : (!decide ((L.length : Int) = (M.length : Int))) = true := by simp; omega
    exact callOK_run 400 [hG 1 1 l1, hG 1 3 l2, hB 1 4 _ _ q0] (by kernel_rfl) (by kernel_rfl)
  have hs : (dKV (L.map (·.1))).length = (dKV (M.map (·.1))).length := by rw [e1, e2]; exact hl
  have hs := hid hs
  have hl := hid hl
  have q0 : (!decide ((L.length : Int) = (M.length : Int))) = false := by have := hl.out; simp; omega
  clear e1 e2
  refine callOK_intro (by kernel_rfl) fun eb R => ?_
  refine go_open (X := { u : Unit // (∀ p ∈ docKV L, TidOk p.1) ∧ (∀ p ∈ L, NilsOk p) ∧ ∀ p ∈ M, NilsOk p }) (fun _ => [((0, 12), .fam fun _ _ => mapC tidK m (ents docW (docKV L))), ((0, 11), .fam fun _ _ => rowsC L), ((0, 7), .fam (docsF M))])
    (fun ε w hM => by
      have hM : Mem (rowsC L :: docsF M (ε 0 7).1 (ε 0 7).2 :: mapC tidK m (ents docW (docKV L)) :: R) w := hM
      have h1 := hM.front 2 rfl
      refine ⟨⟨(), (map_facts h1).2, fun p hp => ?_, fun p hp => ?_⟩, h1⟩
      · refine hM.of 0 rfl (φ := NilsOk p) fun S hS => ?_
        have := hS p hp
        exact ⟨fun e => (this.okl.nil e).2, fun e => (this.okt.nil e).2⟩
      · have h2 := docs_ok (L := M) (M := []) (p := p) (.inl hp) (hM.front 1 rfl)
        exact ⟨fun e => (h2.1.nil e).2, fun e => (h2.2.1.nil e).2⟩) (fun _ => by kernel_rfl) ?_
  rintro ⟨-, hok, hn1, hn2⟩
  have r1 := rangeG (P := Tryz.prog) (K := tidK) (t := DT) (m := m) (j := 12) (L := ents docW (docKV L)) Tryz.underlying96
  have d1 := next_doneG (P := Tryz.prog) (K := tidK) (m := m) (L := ents docW (docKV L))
  refine go_loop (X := { x : List (Tid × (DocV × DocA)) × List (Tid × (DocV × DocA)) // (docKV L).Perm (x.1 ++ x.2) ∧ ∀ p ∈ x.1, lkt (dKV (M.map (·.1))) p.1 = some p.2.1 }) 0 [] (fun x => ([(1, .map 0 7), (2, .fn (.func AlikeF) [] []), (17, .ptr 1 9 0)],
      [((0, 11), .fam fun _ _ => rowsC L), ((0, 7), .fam (docsF M)), ((1, 9), .fam fun r _ => rngC tidK r m (ents docW (docKV L)) (ents docW x.1.2))]))
    (fun x => x.1.2.length) ⟨([], docKV L), List.Perm.refl _, fun p hp => by cases hp⟩ calNone false 400 [hG 1 1 l1, hG 1 3 l2, hB 1 4 _ _ q0, hG 3 1 r1] calNone_ok (by kernel_rfl) ?_
  rintro ⟨⟨done, left⟩, hd, hdone⟩ J hJ
  have back : ∀ {left : List (Tid × (DocV × DocA))} (b : Bool), Go Tryz.prog EqDF (.val (.bool b)) ([((0, 11), .fam fun _ _ => rowsC L), ((0, 7), .fam (docsF M))] ++ [((0, 12), .fam fun _ _ => mapC tidK m (ents docW (docKV L)))]) eb R .nrm (rgK Tryz.prog EqDF (bif b then 9 else 8) [J]) [] [((0, 11), .fam fun _ _ => rowsC L), ((0, 7), .fam (docsF M)), ((1, 9), .fam fun r _ => rngC tidK r m (ents docW (docKV L)) (ents docW left))] := fun {left} b => by
    refine go_open (X := Unit) (fun _ => [((0, 12), .fam fun _ _ => mapC tidK m (ents docW (docKV L))), ((0, 11), .fam fun _ _ => rowsC L), ((0, 7), .fam (docsF M))]) (fun ε w hM => ⟨(), by
      have hM : Mem (rowsC L :: docsF M (ε 0 7).1 (ε 0 7).2 :: rngC tidK (ε 1 9).1 m (ents docW (docKV L)) (ents docW left) :: R) w := hM
      exact (hM.front 2 rfl).weaken (c' := mapC tidK m (ents docW (docKV L))) fun S hS => ⟨hS.2.1, hS.2.2.map⟩⟩) (fun _ => by kernel_rfl) fun _ => ?_
    cases b
    · exact leaf_end calNone false 400 [] calNone_ok (by kernel_rfl)
    · exact leaf_end calNone false 400 [] calNone_ok (by kernel_rfl)
  have toL : ∀ p ∈ docKV L, (p.1, p.2.1) ∈ dKV (L.map (·.1)) := fun p hp => by
    obtain ⟨q, hq, rfl⟩ := List.mem_map.1 hp
    exact List.mem_map.2 ⟨q.1, List.mem_map_of_mem hq, rfl⟩
  cases left with
  | cons x l =>
    have m1 := next_moreG (P := Tryz.prog) (K := tidK) (m := m) (L := ents docW (docKV L)) (left := ents docW (x :: l)) (by simp [ents])
    refine leaf_cut (rgK Tryz.prog EqDF 5 [J]) [(1, .map 0 7), (2, .fn (.func AlikeF) [] []), (17, .ptr 1 9 0)]
      [((1, 9), .fam fun r _ => exC fun (y : (Tid × Value) × List (Tid × Value)) => curC tidK r m (ents docW (docKV L)) (ents docW (x :: l)) y.1 y.2), ((0, 11), .fam fun _ _ => rowsC L), ((0, 7), .fam (docsF M))]
      calNone false 400 [hG 4 0 m1, .stop 5] calNone_ok (by kernel_rfl) ?_
    refine go_open (X := { y : (Tid × (DocV × DocA)) × List (Tid × (DocV × DocA)) // (x :: l).Perm (y.1 :: y.2) }) (fun y => [((1, 9), .fam fun r _ => curC tidK r m (ents docW (docKV L)) (ents docW (x :: l)) (y.1.1.1, docW y.1.1.2) (ents docW y.1.2)), ((0, 11), .fam fun _ _ => rowsC L), ((0, 7), .fam (docsF M))])
      (fun ε w hM => cur_typed hM) (fun y => by kernel_rfl) ?_
    rintro ⟨⟨⟨k, p⟩, l'⟩, hp⟩
    have hd' : (docKV L).Perm ((done ++ [(k, p)]) ++ l') := by
      rw [List.append_assoc]
      exact hd.trans (List.Perm.append_left done hp)
    have hlt : l'.length < (x :: l).length := by have := hp.length_eq; simp only [List.length_cons] at this ⊢; omega
    have hmem : (k, p) ∈ docKV L := hd'.mem_iff.2 (by simp)
    have hmd := toL _ hmem
    obtain ⟨q, hq, hqe⟩ := List.mem_map.1 hmem
    injection hqe with e1 e2
    subst e2
    subst e1
    have hk := hok _ hmem
    have g1 := entryG (P := Tryz.prog) (K := tidK) (m := m) (L := ents docW (docKV L)) (left := ents docW (x :: l)) (left' := ents docW l') (p := (q.1.t, docW q)) (ks := .agg (tidS q.1.t)) (vs := .agg (docSA q.1 q.2)) (fun _ => rfl) (fun _ => rfl)
    have c1 := look_docs M [] (t := q.1.t) hk
    have hlk := lkt_dKV q.1.t M
    cases hf : lkt (docKV M) q.1.t with
    | none =>
      rw [hf] at c1 hlk
      rw [sameM_bad hmd (by rw [hlk]; simp)]
      clear hlk
      exact leaf_cut (rgK Tryz.prog EqDF 8 [J]) _ _ calNone false 400 [hG 5 0 g1, hG 6 2 c1, .stop 8] calNone_ok (by kernel_rfl) (back (left := l') false)
    | some r =>
      rw [hf] at c1 hlk
      have hr := (mem_kv hf).1
      have c2 := alike_w (fun _ _ => rowsC L) (docsF M) (rows_rd hq (hn1 q hq)) (docsF_rd hr (hn2 r hr)) (ok1.sal q hq) (ok2.sal r hr) (ok1.vl q hq)
      rcases Bool.eq_false_or_eq_true (decide (q.1 = r.1)) with he | he
      · have hJ' := hJ ⟨(done ++ [(q.1.t, q)], l'), hd', fun p hp => by
          rcases List.mem_append.1 hp with hp | hp
          · exact hdone p hp
          · rw [List.mem_singleton.1 hp]
            show lkt (dKV (M.map (·.1))) q.1.t = some q.1
            rw [hlk, of_decide_eq_true he]; rfl⟩ hlt
        exact leaf_round (lpK Tryz.prog EqDF 0 []) false 400 [hG 5 0 g1, hG 6 2 c1, hC 7 6 c2, hB 7 6 _ _ he] hJ' (by kernel_rfl)
      · rw [sameM_bad hmd (by rw [hlk]; intro e; injection e with e; exact of_decide_eq_false he e.symm)]
        clear hlk
        exact leaf_cut (rgK Tryz.prog EqDF 8 [J]) _ _ calNone false 400 [hG 5 0 g1, hG 6 2 c1, hC 7 6 c2, hB 7 6 _ _ he, .stop 8] calNone_ok (by kernel_rfl) (back (left := l') false)
  | nil =>
    rw [List.append_nil] at hd
    rw [sameM_mk hs.out fun p hp => by
      obtain ⟨d, hd0, rfl⟩ := List.mem_map.1 hp
      obtain ⟨q, hq, rfl⟩ := List.mem_map.1 hd0
      exact hdone (q.1.t, q) (hd.mem_iff.1 (List.mem_map_of_mem (f := fun p : DocV × DocA => (p.1.t, p)) hq))]
    exact leaf_cut (rgK Tryz.prog EqDF 9 []) _ _ calNone false 400 [hG 4 0 d1, .stop 9] calNone_ok (by kernel_rfl) (back (left := []) true)
end Go.Proofs.YtifapcpcemigdaaGreat
end
section
namespace Go.Proofs.YtifapcpcemigdaaGreat
open Go.RowKit Go.Lib Go.Tk Go.Shelf Go.Vc Go.Sx Go.Maps
theorem eqO_r (m : Nat) (L M : OwnsV) : CallOK Tryz.prog EqO [.val (.map (some m)), .map 0 7] [((0, 7), ownsF M), ((0, 5), .fam fun _ _ => mapC kidK m (ents ownW L))] [] (.val (.bool (sameM L M))) [] :=
  CallOK.to_rd (rd := [((0, 7), ownsF M), ((0, 5), .fam fun _ _ => mapC kidK m (ents ownW L))]) (pre := []) (post := []) (eqO_w m L M).of_rd
theorem eqH_r (m : Nat) (L M : HeldsV) : CallOK Tryz.prog EqH [.val (.map (some m)), .map 0 7] [((0, 7), heldsF M), ((0, 6), .fam fun _ _ => mapC kidK m (ents heldW L))] [] (.val (.bool (sameM L M))) [] :=
  CallOK.to_rd (rd := [((0, 7), heldsF M), ((0, 6), .fam fun _ _ => mapC kidK m (ents heldW L))]) (pre := []) (post := []) (eqH_w m L M).of_rd
theorem eqD_r (m : Nat) (L M : List (DocV × DocA)) (ok1 : DocsOk L) (ok2 : DocsOk M) : CallOK Tryz.prog EqDF [.val (.map (some m)), .map 0 7, .fn (.func AlikeF) [] []] [((0, 11), .fam fun _ _ => rowsC L), ((0, 7), .fam (docsF M)), ((0, 12), .fam fun _ _ => mapC tidK m (ents docW (docKV L)))] [] (.val (.bool (sameM (dKV (L.map (·.1))) (dKV (M.map (·.1)))))) [] :=
  CallOK.to_rd (rd := [((0, 11), .fam fun _ _ => rowsC L), ((0, 7), .fam (docsF M)), ((0, 12), .fam fun _ _ => mapC tidK m (ents docW (docKV L)))]) (pre := []) (post := []) (eqD_w m L M ok1 ok2).of_rd
def SameBF : Nat := 45
def sameB (B C : BookV) : Bool := decide (B.self = C.self) && (decide (B.n = C.n) && (sameM (dKV B.docs) (dKV C.docs) && (sameM B.owns C.owns && sameM B.helds C.helds)))
def sameH (B C : BookV) (a : BkA) (L M : List (DocV × DocA)) : Heap := [((0, 20), oldB B a), ((0, 12), .fam fun _ _ => mapC tidK a.d (ents docW (docKV L))), ((0, 11), .fam fun _ _ => rowsC L), ((0, 5), .fam fun _ _ => mapC kidK a.o (ents ownW B.owns)), ((0, 6), .fam fun _ _ => mapC kidK a.h (ents heldW B.helds))] ++ bkH (docsF M) C
theorem same_open (B C : BookV) (a : BkA) {L M : List (DocV × DocA)} (hL : L.map (·.1) = B.docs) (hM : M.map (·.1) = C.docs) (ok1 : DocsOk L) (ok2 : DocsOk M) : CallOK Tryz.prog SameBF [.ptr 0 20 0, .ptr 0 0 0] (sameH B C a L M) [] (.val (.bool (sameB B C))) [] := by
  have c1 := eqD_r a.d L M ok1 ok2
  rw [hL, hM] at c1
  have c2 := eqO_r a.o B.owns C.owns
  have c3 := eqH_r a.h B.helds C.helds
  clear hL hM
  have hS : sameB B C = (decide (B.self = C.self) && (decide (B.n = C.n) && (sameM (dKV B.docs) (dKV C.docs) && (sameM B.owns C.owns && sameM B.helds C.helds)))) := rfl
  generalize sameM (dKV B.docs) (dKV C.docs) = b1 at *
  generalize sameM B.owns C.owns = b2 at *
  generalize sameM B.helds C.helds = b3 at *
  rw [hS]
  clear hS
  rcases Bool.eq_false_or_eq_true (decide (B.self = C.self)) with h1 | h1 <;> rw [h1]
  case inr => exact callOK_run 400 [hB 3 8 _ _ h1] (by kernel_rfl) (by kernel_rfl)
  rcases Bool.eq_false_or_eq_true (decide (B.n = C.n)) with h2 | h2 <;> rw [h2]
  case inr => exact callOK_run 400 [hB 3 8 _ _ h1, hB 3 18 _ _ h2] (by kernel_rfl) (by kernel_rfl)
  cases b1
  · exact callOK_run 400 [hB 3 8 _ _ h1, hB 3 18 _ _ h2, hC 3 29 c1] (by kernel_rfl) (by kernel_rfl)
  cases b2
  · exact callOK_run 400 [hB 3 8 _ _ h1, hB 3 18 _ _ h2, hC 3 29 c1, hC 3 40 c2] (by kernel_rfl) (by kernel_rfl)
  cases b3
  · exact callOK_run 400 [hB 3 8 _ _ h1, hB 3 18 _ _ h2, hC 3 29 c1, hC 3 40 c2, hC 3 51 c3] (by kernel_rfl) (by kernel_rfl)
  · exact callOK_run 400 [hB 3 8 _ _ h1, hB 3 18 _ _ h2, hC 3 29 c1, hC 3 40 c2, hC 3 51 c3] (by kernel_rfl) (by kernel_rfl)
structure DsOk (ds : List DocV) : Prop where
  sal : ∀ d ∈ ds, SaleOk d.s
  vl : ∀ d ∈ ds, d.vals.length ≤ 1073741824
theorem DsOk.docs {ds : List DocV} (h : DsOk ds) {L : List (DocV × DocA)} (hL : L.map (·.1) = ds) : DocsOk L := ⟨fun p hp => h.sal _ (hL ▸ List.mem_map_of_mem hp), fun p hp => h.vl _ (hL ▸ List.mem_map_of_mem hp)⟩
theorem same_w0 (B C : BookV) (ok1 : DsOk B.docs) (ok2 : DsOk C.docs) : CallOK Tryz.prog SameBF [.ptr 0 20 0, .ptr 0 0 0] [((0, 20), .fam (bookF B))] (bkH (docsX C.docs) C) (.val (.bool (sameB B C))) (bkH (docsX C.docs) C) := by
  intro ε R w hM
  have hM : Mem (bookF B (ε 0 20).1 (ε 0 20).2 :: boxE none (ε 0 0).1 #[.int .u8 C.self, .int .i64 C.n, .map (some (ε 0 1).1), .map (some (ε 0 2).1), .map (some (ε 0 3).1)] :: docsX C.docs (ε 0 1).1 (ε 0 1).2 :: mapT kidK ownW C.owns (ε 0 2).1 (ε 0 2).2 :: mapT kidK heldW C.helds (ε 0 3).1 (ε 0 3).2 :: R) w := hM
  obtain ⟨a, h⟩ := Mem.ex hM
  have h2 := h.all.front 1 rfl
  obtain ⟨⟨L, hL⟩, h3⟩ := Mem.ex h2
  have h4 := docs_split h3
  have h5 := h4.front 6 rfl
  obtain ⟨⟨M, hM'⟩, h6⟩ := Mem.ex h5
  have h7 := ((((((((h6.front 8 rfl).front 8 rfl).front 2 rfl).front 8 rfl).front 8 rfl).front 8 rfl).front 7 rfl).front 7 rfl).front 8 rfl
  refine ((same_open B C a hL hM' (ok1.docs hL) (ok2.docs hM')).of_rd.post_mono (post' := [((0, 20), .fam (bookF B))] ++ bkH (docsX C.docs) C) (fun ε R w hm => ?_)) ε R w h7
  have hm : Mem (boxE none (ε 0 20).1 #[.int .u8 B.self, .int .i64 B.n, .map (some a.d), .map (some a.o), .map (some a.h)] :: mapC tidK a.d (ents docW (docKV L)) :: rowsC L :: mapC kidK a.o (ents ownW B.owns) :: mapC kidK a.h (ents heldW B.helds) :: boxE none (ε 0 0).1 #[.int .u8 C.self, .int .i64 C.n, .map (some (ε 0 1).1), .map (some (ε 0 2).1), .map (some (ε 0 3).1)] :: docsF M (ε 0 1).1 (ε 0 1).2 :: mapT kidK ownW C.owns (ε 0 2).1 (ε 0 2).2 :: mapT kidK heldW C.helds (ε 0 3).1 (ε 0 3).2 :: R) w := hm
  have k1 := docs_shut (v := undef) (((hm.front 1 rfl).front 2 rfl).front 1 rfl)
  have k2 : Mem (docsX B.docs a.d undef :: _) w := Mem.in_ex ⟨L, hL⟩ k1
  have k3 := Mem.in_ex (f := fun y : BkA => allC [boxE none (ε 0 20).1 #[.int .u8 B.self, .int .i64 B.n, .map (some y.d), .map (some y.o), .map (some y.h)], docsX B.docs y.d undef, mapT kidK ownW B.owns y.o undef, mapT kidK heldW B.helds y.h undef]) a (Mem.in_all (l := [_, _, _, _]) (k2.front 1 rfl))
  have k4 : Mem (docsX C.docs (ε 0 1).1 (ε 0 1).2 :: _) w := Mem.in_ex ⟨M, hM'⟩ (k3.front 2 rfl)
  exact (((k4.front 1 rfl).front 2 rfl).front 1 rfl)
theorem same_c (B C : BookV) (ok1 : DsOk B.docs) (ok2 : DsOk C.docs) : CallOK Tryz.prog SameBF [.ptr 0 20 0, .ptr 0 0 0] [((0, 20), .fam (bookF B))] (bkC C) (.val (.bool (sameB B C))) (bkC C) :=
  shut (post := []) (B := C) (B' := C) (same_w0 B C ok1 ok2) rfl rfl rfl rfl
theorem sameB_self {B : BookV} (h1 : (B.docs.map (·.t)).Nodup) (h2 : (B.owns.map (·.1)).Nodup) (h3 : (B.helds.map (·.1)).Nodup) : sameB B B = true := by
  unfold sameB
  rw [sameM_self (L := dKV B.docs) (by unfold dKV; rw [List.map_map]; exact h1), sameM_self h2, sameM_self h3]
  simp
end Go.Proofs.YtifapcpcemigdaaGreat
end
section
namespace Go.Proofs.YtifapcpcemigdaaGreat
open Go.RowKit Go.Lib Go.Tk Go.Shelf Go.Vc Go.Sx
theorem tid_docs {B : BookV} (h : BookOk B) {d : DocV} (hd : d ∈ B.docs) : TidOk d.t := by
  obtain ⟨j, hj, hjd⟩ := List.getElem_of_mem hd
  have e := h.docs j d (by rw [List.getElem?_eq_getElem hj, hjd])
  have hs := h.self
  have hn := h.n
  have hm := h.many
  rw [e]
  exact ⟨⟨by show 0 ≤ B.self; omega, by show B.self ≤ 255; omega⟩, by show 0 ≤ (j : Int) + 1; omega, by show (j : Int) + 1 ≤ _; omega⟩
theorem slOk_row {w : World} {a : Option Addr} {xs : List Value} {n c : Nat} (hr : Row w a xs) (hx : a = none → xs.length = 0 → n = 0) (hn : a = none → c = 0) : SlOk a n c := ⟨fun e => ⟨hx e (by
  subst e
  cases hl : xs.length with
  | zero => rfl
  | succ k =>
    obtain ⟨b, off, h, -⟩ := hr 0 (by omega)
    cases h), hn e⟩⟩
theorem encTaxL_len (l : List Tax) : (cellsL encTax l).length = l.length * 2 := cellsL_len (enc := encTax) (size := 2) (fun _ => rfl) l
theorem ExOk.ds {B : BookV} (h : ExOk B) : DsOk B.docs := ⟨h.sal, fun d hd => (h.sm d hd).nv⟩
theorem ExOk.cl {B : BookV} (h : ExOk B) : ∀ d ∈ B.docs, TidOk d.t ∧ DocSmall d := fun d hd => ⟨tid_docs h.bk hd, h.sm d hd⟩
theorem book_facts {B : BookV} {b : Nat} {v : Value} {R : List Chunk} {w : World} (h : Mem (bookF B b v :: R) w) : (B.owns.map (·.1)).Nodup ∧ (B.helds.map (·.1)).Nodup := by
  obtain ⟨a, h1⟩ := Mem.ex h
  have h2 := h1.all
  have h3 : Mem (mapC kidK a.o (ents ownW B.owns) :: _) w := h2.front 2 rfl
  have h4 : Mem (mapC kidK a.h (ents heldW B.helds) :: _) w := h2.front 3 rfl
  exact ⟨(map_facts h3).1, (map_facts h4).1⟩
structure BI (B : BookV) : Prop where
  ex : ExOk B
  hk : ∀ k h, lkt B.helds k = some h → B.badK k = false
  hl : B.helds.length ≤ 64
theorem putt_len {κ α : Type} [DecidableEq κ] (k : κ) (a : α) : ∀ L : List (κ × α), (putt L k a).length = if (lkt L k).isSome then L.length else L.length + 1
  | [] => rfl
  | p :: L => by
    show (if p.1 = k then (k, a) :: L else p :: putt L k a).length = _
    have e : lkt (p :: L) k = if p.1 = k then some p.2 else lkt L k := rfl
    rw [e]
    by_cases q : p.1 = k
    · rw [if_pos q, if_pos q]; rfl
    · rw [if_neg q, if_neg q, List.length_cons, putt_len k a L]
      split <;> rfl
theorem badK_same {B C : BookV} (h1 : C.self = B.self) (h2 : C.n = B.n) (k : Kid) : C.badK k = B.badK k := by unfold BookV.badK; rw [h1, h2]
theorem setH_same (B : BookV) (k : Kid) (h : HeldV) : (B.setH k h).docs = B.docs ∧ (B.setH k h).self = B.self ∧ (B.setH k h).n = B.n ∧ (B.setH k h).owns = B.owns := by
  unfold BookV.setH; cases decide (B.setHE k = 0) <;> exact ⟨rfl, rfl, rfl, rfl⟩
theorem ExOk.setH {B : BookV} (h : ExOk B) (k : Kid) (x : HeldV) : ExOk (B.setH k x) := by
  obtain ⟨e1, e2, e3, e4⟩ := setH_same B k x
  exact ⟨⟨by rw [e2, e3]; exact h.bk.self, by rw [e3]; exact h.bk.n, by rw [e1, e2]; exact h.bk.docs, by rw [e1]; exact h.bk.many⟩, by rw [e1]; exact h.sal, by rw [e1]; exact h.sm, by rw [e4]; exact h.own⟩
theorem setHE_cases (B : BookV) (k : Kid) : (B.setHE k = 1 ∧ B.badK k = true) ∨ (B.setHE k = 3 ∧ B.badK k = false ∧ lkt B.helds k = none ∧ 64 ≤ B.helds.length) ∨ (B.setHE k = 0 ∧ B.badK k = false ∧ ((lkt B.helds k).isSome = true ∨ B.helds.length < 64)) := by
  unfold BookV.setHE
  cases h1 : B.badK k
  · cases h2 : lkt B.helds k with
    | none =>
      rcases Bool.eq_false_or_eq_true (decide (64 ≤ B.helds.length)) with h3 | h3
      · rw [h3]; exact .inr (.inl ⟨rfl, rfl, rfl, of_decide_eq_true h3⟩)
      · rw [h3]; exact .inr (.inr ⟨rfl, rfl, .inr (by have := of_decide_eq_false h3; omega)⟩)
    | some x => exact .inr (.inr ⟨rfl, rfl, .inl rfl⟩)
  · exact .inl ⟨rfl, rfl⟩
theorem setH_ok {B : BookV} {k : Kid} (h : B.setHE k = 0) (x : HeldV) : B.setH k x = { B with helds := putt B.helds k x } := by unfold BookV.setH; rw [decide_eq_true h]; rfl
theorem setH_not {B : BookV} {k : Kid} (h : B.setHE k ≠ 0) (x : HeldV) : B.setH k x = B := by unfold BookV.setH; rw [decide_eq_false h]; rfl
theorem BI.setH {B : BookV} (h : BI B) (k : Kid) (x : HeldV) : BI (B.setH k x) := by
  obtain ⟨e1, e2, e3, e4⟩ := setH_same B k x
  refine ⟨h.ex.setH k x, fun k' y hy => ?_, ?_⟩
  · rw [badK_same e2 e3]
    rcases setHE_cases B k with ⟨g, -⟩ | ⟨g, -⟩ | ⟨g, gb, -⟩
    · rw [setH_not (by rw [g]; decide)] at hy; exact h.hk k' y hy
    · rw [setH_not (by rw [g]; decide)] at hy; exact h.hk k' y hy
    · rw [setH_ok g] at hy
      have hy : lkt (putt B.helds k x) k' = some y := hy
      rw [lkt_put] at hy
      by_cases q : k = k'
      · rw [← q]; exact gb
      · rw [if_neg q] at hy; exact h.hk k' y hy
  · rcases setHE_cases B k with ⟨g, -⟩ | ⟨g, -⟩ | ⟨g, gb, gl⟩
    · rw [setH_not (by rw [g]; decide)]; exact h.hl
    · rw [setH_not (by rw [g]; decide)]; exact h.hl
    · rw [setH_ok g]
      show (putt B.helds k x).length ≤ 64
      rw [putt_len]
      have := h.hl
      rcases gl with gl | gl
      · rw [if_pos gl]; exact this
      · split <;> omega
theorem BI.setO {B : BookV} (h : BI B) {k : Kid} {o : OwnV} (ho : OwnOk o) : BI (B.setO k o) := by
  obtain ⟨e1, e2, e3, e4⟩ := setO_same B k o
  exact ⟨h.ex.setO ho, by rw [e4]; intro k' y hy; rw [badK_same e2 e3]; exact h.hk k' y hy, by rw [e4]; exact h.hl⟩
theorem new_bi (self n : Int) (h : 0 ≤ self ∧ self < n ∧ 2 ≤ n ∧ n ≤ 8) : BI (bookNew self n) := ⟨new_ex self n h, (fun k o e => by cases e), by show (0 : Nat) ≤ 64; decide⟩
theorem bookE_ok {self n : Int} (hs : 0 ≤ self) (h : bookE self n = 0) : 0 ≤ self ∧ self < n ∧ 2 ≤ n ∧ n ≤ 8 := by
  have h0 : (decide (n < 2) || (decide (8 < n) || decide (n ≤ self))) = false := by
    cases hb : (decide (n < 2) || (decide (8 < n) || decide (n ≤ self))) with
    | false => rfl
    | true => unfold bookE at h; rw [hb] at h; cases h
  simp only [Bool.or_eq_false_iff, decide_eq_false_iff_not] at h0
  omega
theorem setO_lk {B : BookV} {k : Kid} {o : OwnV} (k' : Kid) : lkt (B.setO k o).owns k' = if k = k' then (lkt B.owns k).map fun _ => o else lkt B.owns k' := by
  cases h : lkt B.owns k with
  | none =>
    rw [setO_none h]
    by_cases q : k = k'
    · rw [if_pos q, ← q, h]; rfl
    · rw [if_neg q]
  | some x =>
    rw [setO_some h]
    show lkt (putt B.owns k o) k' = _
    rw [lkt_put]
    by_cases q : k = k'
    · rw [if_pos q, if_pos q]; rfl
    · rw [if_neg q, if_neg q]
end Go.Proofs.YtifapcpcemigdaaGreat
end
section
namespace Go.Proofs.YtifapcpcemigdaaGreat
open Go.RowKit Go.Lib Go.Tk Go.WideShapes Go.Joins Go.ChangeShapes
structure SaleW (s : SaleV) : Prop where
  name : s.name.size ≤ maxLen
  legs : ∀ l ∈ s.legs, LegOk l
  taxes : ∀ t ∈ s.taxes, TaxOk t
  fare : -9223372036854775808 ≤ s.fare ∧ s.fare ≤ 9223372036854775807
  pen : -9223372036854775808 ≤ s.pen ∧ s.pen ≤ 9223372036854775807
  nl : s.legs.length ≤ maxLen
  nt : s.taxes.length ≤ maxLen
theorem SaleW.small {s : SaleV} (h : SaleW s) (h1 : s.legs.length ≤ 1000) (h2 : s.taxes.length ≤ 1000) : SaleOk s := ⟨h.name, h.legs, h.taxes, h.fare, h.pen, h1, h2⟩
theorem wfi64 {a : Int} (h : (Lit.int .i64 a).wf = true) : -9223372036854775808 ≤ a ∧ a ≤ 9223372036854775807 := by
  simpa [Lit.wf, IntKind.min, IntKind.max, IntKind.signed, IntKind.bits] using h
theorem wfu8 {a : Int} (h : (Lit.int .u8 a).wf = true) : 0 ≤ a ∧ a ≤ 255 := by
  simpa [Lit.wf, IntKind.min, IntKind.max, IntKind.signed, IntKind.bits] using h
theorem wfu16 {a : Int} (h : (Lit.int .u16 a).wf = true) : 0 ≤ a ∧ a ≤ 65535 := by
  simpa [Lit.wf, IntKind.min, IntKind.max, IntKind.signed, IntKind.bits] using h
theorem wfu32 {a : Int} (h : (Lit.int .u32 a).wf = true) : 0 ≤ a ∧ a ≤ 4294967295 := by
  simpa [Lit.wf, IntKind.min, IntKind.max, IntKind.signed, IntKind.bits] using h
theorem wfu64 {a : Int} (h : (Lit.int .u64 a).wf = true) : 0 ≤ a ∧ a ≤ 18446744073709551615 := by
  simpa [Lit.wf, IntKind.min, IntKind.max, IntKind.signed, IntKind.bits] using h
theorem len2 {cs : List Value} (h : cs.length = 2) : ∃ a b, cs = [a, b] := by
  match cs, h with
  | [a, b], _ => exact ⟨a, b, rfl⟩
theorem len3 {cs : List Value} (h : cs.length = 3) : ∃ a b c, cs = [a, b, c] := by
  match cs, h with
  | [a, b, c], _ => exact ⟨a, b, c, rfl⟩
variable {H : Type} {enc : TypeId × Value → H} {w : World} {base : Nat} {spare : Nat → Bool} {held : Bool}
set_option maxRecDepth 100000 in
theorem leg_cells {n : Nat} {cs : List Value} {y : DataW H × List MemPlace} (hl : cs.length = 3) (h : DataW.trod enc Tryz.prog w base spare held n 43 cs = some y) : ∃ l : Leg, encLeg l = cs ∧ LegOk l := by
  obtain ⟨_, m, hf⟩ := struct_fields Tryz.underlying43 h
  obtain ⟨c0, c1, c2, rfl⟩ := len3 hl
  simp only [List.forall_mem_cons] at hf
  obtain ⟨⟨y0, h0⟩, ⟨y1, h1⟩, ⟨y2, h2⟩, -⟩ := hf
  obtain ⟨a0, e0, w0⟩ := int_cell Tryz.underlying5 h0
  obtain ⟨a1, e1, w1⟩ := int_cell Tryz.underlying40 h1
  obtain ⟨a2, e2, w2⟩ := int_cell Tryz.underlying41 h2
  have f0 : c0 = .int .u8 a0 := by simpa [show Tryz.prog.cellsOf 5 = 1 by kernel_rfl] using e0
  have f1 : c1 = .int .u16 a1 := by simpa [show Tryz.prog.cellsOf 40 = 1 by kernel_rfl] using e1
  have f2 : c2 = .int .u32 a2 := by simpa [show Tryz.prog.cellsOf 41 = 1 by kernel_rfl] using e2
  exact ⟨⟨a0, a1, a2⟩, by rw [f0, f1, f2]; rfl, wfu8 w0, wfu16 w1, wfu32 w2⟩
set_option maxRecDepth 100000 in
theorem tax_cells {n : Nat} {cs : List Value} {y : DataW H × List MemPlace} (hl : cs.length = 2) (h : DataW.trod enc Tryz.prog w base spare held n 154 cs = some y) : ∃ l : Tax, encTax l = cs ∧ TaxOk l := by
  obtain ⟨_, m, hf⟩ := struct_fields Tryz.underlying154 h
  obtain ⟨c0, c1, rfl⟩ := len2 hl
  simp only [List.forall_mem_cons] at hf
  obtain ⟨⟨y0, h0⟩, ⟨y1, h1⟩, -⟩ := hf
  obtain ⟨a0, e0, w0⟩ := string_cell Tryz.underlying9 h0
  obtain ⟨a1, e1, w1⟩ := int_cell Tryz.underlying2 h1
  have f0 : c0 = .string a0 := by simpa [show Tryz.prog.cellsOf 9 = 1 by kernel_rfl] using e0
  have f1 : c1 = .int .i64 a1 := by simpa [show Tryz.prog.cellsOf 2 = 1 by kernel_rfl] using e1
  exact ⟨⟨a0, a1⟩, by rw [f0, f1]; rfl, w0, wfi64 w1⟩
theorem legs_cell {n : Nat} {v : Value} {y : DataW H × List MemPlace} (h : DataW.trod enc Tryz.prog w base spare held n 29 [v] = some y) :
    ∃ (a : Option Addr) (l : List Leg) (c : Nat), v = .slice a l.length c ∧ Row w a (cellsL encLeg l) ∧ (a = none → c = 0) ∧ l.length ≤ maxLen ∧ ∀ x ∈ l, LegOk x := by
  obtain ⟨a, len, cap, rows, rfl, hlen, hrows, hr, hn, hm, _⟩ := slice_rows (fun cs => ∃ l : Leg, encLeg l = cs ∧ LegOk l) Tryz.underlying29 (show Tryz.prog.cellsOf 43 = 3 by kernel_rfl) (by decide) (fun n cs y hl h => leg_cells hl h) h
  obtain ⟨l, hl⟩ := listOf (enc := fun x : { x : Leg // LegOk x } => encLeg x.1) (Q := fun cs => ∃ l : Leg, encLeg l = cs ∧ LegOk l) (fun r ⟨x, hx, hk⟩ => ⟨⟨x, hk⟩, hx⟩) rows (fun r hr => (hrows r hr).2)
  have hl2 : (l.map (·.1)).map encLeg = rows := by rw [List.map_map]; exact hl
  have hl3 : (l.map (·.1)).length = len := by rw [← hlen, ← hl2]; simp
  refine ⟨a, l.map (·.1), cap, by rw [hl3], ?_, hn, by rw [hl3]; exact hm, fun x hx => ?_⟩
  · unfold cellsL; rw [hl2]; exact hr
  · obtain ⟨z, _, rfl⟩ := List.mem_map.1 hx; exact z.2
theorem taxes_cell {n : Nat} {v : Value} {y : DataW H × List MemPlace} (h : DataW.trod enc Tryz.prog w base spare held n 30 [v] = some y) :
    ∃ (a : Option Addr) (l : List Tax) (c : Nat), v = .slice a l.length c ∧ Row w a (cellsL encTax l) ∧ (a = none → c = 0) ∧ l.length ≤ maxLen ∧ ∀ x ∈ l, TaxOk x := by
  obtain ⟨a, len, cap, rows, rfl, hlen, hrows, hr, hn, hm, _⟩ := slice_rows (fun cs => ∃ l : Tax, encTax l = cs ∧ TaxOk l) Tryz.underlying30 (show Tryz.prog.cellsOf 154 = 2 by kernel_rfl) (by decide) (fun n cs y hl h => tax_cells hl h) h
  obtain ⟨l, hl⟩ := listOf (enc := fun x : { x : Tax // TaxOk x } => encTax x.1) (Q := fun cs => ∃ l : Tax, encTax l = cs ∧ TaxOk l) (fun r ⟨x, hx, hk⟩ => ⟨⟨x, hk⟩, hx⟩) rows (fun r hr => (hrows r hr).2)
  have hl2 : (l.map (·.1)).map encTax = rows := by rw [List.map_map]; exact hl
  have hl3 : (l.map (·.1)).length = len := by rw [← hlen, ← hl2]; simp
  refine ⟨a, l.map (·.1), cap, by rw [hl3], ?_, hn, by rw [hl3]; exact hm, fun x hx => ?_⟩
  · unfold cellsL; rw [hl2]; exact hr
  · obtain ⟨z, _, rfl⟩ := List.mem_map.1 hx; exact z.2
end Go.Proofs.YtifapcpcemigdaaGreat
end
section
namespace Go.Proofs.YtifapcpcemigdaaGreat
open Go.RowKit Go.Lib Go.Tk Go.Shelf Go.Vc Go.Sx Go.WideShapes
structure Act17 where
  d : Int
  t : Tid
  s : SaleV
  A : SaleA
section
variable {H : Type} {enc : TypeId × Value → H} {w : World} {base : Nat} {spare : Nat → Bool} {held : Bool}
end
end Go.Proofs.YtifapcpcemigdaaGreat
end
section
namespace Go.Proofs.YtifapcpcemigdaaGreat
open Go.RowKit Go.Lib Go.Tk Go.Shelf Go.Vc Go.Sx
def doX (B : BookV) (x : Act17) : XR := if x.d = 0 then exIssue B x.s else if x.d = 1 then exDisplay B x.t else if x.d = 2 then exVoid B x.t else if x.d = 3 then exRefund B x.t else exExchange B x.t x.s
inductive ActEnd (B : BookV) (x : Act17) : XR → Prop where
  | fail (e : Int) (h : e ≠ 0) : ActEnd B x (failX e B)
  | look (d : DocV) (hd : d ∈ B.docs) (h : x.d = 1) (ht : d.t = x.t) : ActEnd B x (toldX B d.t d.left)
  | made (h : x.d = 0) (hm : B.issE x.s = 0) : ActEnd B x (toldX (B.issued x.s) B.nextT (priceI x.s))
  | turn (d d' : DocV) (s a : Int) (hd : d ∈ B.docs) (ht : d.t = x.t) (ht' : d'.t = d.t) (hl : d'.left = d.left ∨ d'.left = 0) (h : x.d = 2 ∨ x.d = 3) (ha : mayI a = true) : ActEnd B x (toldX (turnB (B.setD d') d.t s) d.t a)
  | exch (d : DocV) (hd : d ∈ B.docs) (ht : d.t = x.t) (h : ¬ (x.d = 0 ∨ x.d = 1 ∨ x.d = 2 ∨ x.d = 3)) (hg : (giftV B d).e = 0) (hm : B.issE x.s = 0) : ActEnd B x (toldX ((exB2 B d x.s).setD (exD2 B d x.s)) B.nextT (priceI x.s - usedX x.s (giftV B d)))
theorem mayI_mk {x : Int} (h : -1125899906842624 ≤ x ∧ x ≤ 1125899906842624) : mayI x = true := by simp [mayI]; omega
theorem price_may (s : SaleV) : -1125899906842624 ≤ priceI s ∧ priceI s ≤ 1125899906842624 := sum_bound _ 0 (by decide) (by decide)
theorem noneB_gift {B : BookV} {d : DocV} : -1125899906842624 ≤ (giftV B d).g ∧ (giftV B d).g ≤ 1125899906842624 := sum_bound _ 0 (by decide) (by decide)
theorem doX_end (B : BookV) (x : Act17) : ActEnd B x (doX B x) := by
  unfold doX
  by_cases g0 : x.d = 0
  · rw [if_pos g0]
    unfold exIssue
    rcases Bool.eq_false_or_eq_true (decide (B.issE x.s = 0)) with e | e <;> rw [e]
    · exact .made g0 (of_decide_eq_true e)
    · exact .fail _ (of_decide_eq_false e)
  rw [if_neg g0]
  by_cases g1 : x.d = 1
  · rw [if_pos g1]
    unfold exDisplay
    cases hf : lkD B.docs x.t with
    | none => exact .fail 4 (by decide)
    | some d =>
      obtain ⟨hd, ht⟩ := lkD_mem hf
      show ActEnd B x (toldX B x.t d.left)
      rw [← ht]
      exact .look d hd g1 ht
  rw [if_neg g1]
  by_cases g2 : x.d = 2
  · rw [if_pos g2]
    unfold exVoid
    cases hf : lkD B.docs x.t with
    | none => exact .fail 4 (by decide)
    | some d =>
      obtain ⟨hd, ht⟩ := lkD_mem hf
      show ActEnd B x (exVoidD B x.t d)
      rw [← ht]
      unfold exVoidD
      rcases Bool.eq_false_or_eq_true (voidL (tid0B d.frm) (coupL B d.t)) with e1 | e1 <;> rw [e1]
      · rcases Bool.eq_false_or_eq_true (decide ((addI d.back d.paid).2 = 0)) with e2 | e2 <;> rw [e2]
        · have := price_may d.s
          exact .turn d (voidD d) 5 _ hd ht rfl (.inl rfl) (.inl g2) (mayI_mk (by omega))
        · exact .fail _ (of_decide_eq_false e2)
      · exact .fail 6 (by decide)
  rw [if_neg g2]
  by_cases g3 : x.d = 3
  · rw [if_pos g3]
    unfold exRefund
    cases hf : lkD B.docs x.t with
    | none => exact .fail 4 (by decide)
    | some d =>
      obtain ⟨hd, ht⟩ := lkD_mem hf
      show ActEnd B x (exRefundD B x.t d)
      rw [← ht]
      unfold exRefundD
      cases noneB B d
      · rcases Bool.eq_false_or_eq_true (decide (refE B d = 0)) with e2 | e2 <;> rw [e2]
        · have := noneB_gift (B := B) (d := d)
          exact .turn d (refD B d) 6 _ hd ht rfl (.inr rfl) (.inr g3) (mayI_mk (by omega))
        · exact .fail _ (of_decide_eq_false e2)
      · exact .fail 6 (by decide)
  rw [if_neg g3]
  unfold exExchange
  cases hf : lkD B.docs x.t with
  | none => exact .fail 4 (by decide)
  | some d =>
    obtain ⟨hd, ht⟩ := lkD_mem hf
    show ActEnd B x (exExchangeD B d x.s)
    unfold exExchangeD
    rcases Bool.eq_false_or_eq_true (noneB B d || !tid0B d.dst) with e1 | e1 <;> rw [e1]
    · exact .fail 6 (by decide)
    rcases Bool.eq_false_or_eq_true (decide (exE B d = 0)) with e2 | e2 <;> rw [e2]
    · rcases Bool.eq_false_or_eq_true (decide (B.issE x.s = 0)) with e3 | e3 <;> rw [e3]
      · exact .exch d hd ht (by omega) (first2_0 (of_decide_eq_true e2)).1 (of_decide_eq_true e3)
      · exact .fail _ (of_decide_eq_false e3)
    · exact .fail _ (of_decide_eq_false e2)
theorem turn1_helds (B : BookV) (k : Kid) (o : OwnV) (s : Int) : (turn1 B k o s).helds = B.helds := by
  unfold turn1
  cases freeO o
  · rfl
  · exact (setO_same B k _).2.2.2
theorem turnL_helds (s : Int) (t : Tid) : ∀ (l : List OwnV) (B : BookV) (i : Int), (turnL s t B i l).helds = B.helds
  | [], _, _ => rfl
  | o :: l, B, i => by
    show (turnL s t (turn1 B ⟨t, i⟩ o s) (i + 1) l).helds = _
    rw [turnL_helds s t l, turn1_helds]
theorem turnB_helds (B : BookV) (t : Tid) (s : Int) : (turnB B t s).helds = B.helds := turnL_helds s t _ B 0
theorem turnB_lk (B : BookV) (t : Tid) (s : Int) (k : Kid) : lkt (turnB B t s).owns k = lkt B.owns k ∨ ∃ o, lkt B.owns k = some o ∧ lkt (turnB B t s).owns k = some (turnO s o) := by
  by_cases h : ∃ i : Nat, i < (coupL B t).length ∧ k = ⟨t, (i : Int)⟩
  · obtain ⟨i, hi, rfl⟩ := h
    exact .inr ⟨_, coupL_get hi, turnB_at hi⟩
  · exact .inl (turnB_other fun i hi e => h ⟨i, hi, e⟩)
theorem doX_helds (B : BookV) (x : Act17) : (doX B x).b.helds = B.helds := by
  have q := doX_end B x
  generalize doX B x = r at q ⊢
  cases q with
  | fail e h => rfl
  | look d hd h ht => rfl
  | made h hm => rfl
  | turn d d' s a hd ht ht' hl h ha => exact turnB_helds _ _ _
  | exch d hd ht h hg hm => exact turnB_helds _ _ _
theorem putD_length (ds : List DocV) (d : DocV) : (putD ds d).length = ds.length := List.length_map _
structure EL (B : BookV) : Prop where
  ex : ExOk B
  ks : KeysIn B
  lf : ∀ d ∈ B.docs, 0 ≤ d.left ∧ d.left ≤ 1125899906842624
  ne : ∀ d ∈ B.docs, coupL B d.t ≠ []
theorem newL_ne {B : BookV} {s : SaleV} (ok : SaleOk s) (hm : B.issE s = 0) : newL s ≠ [] := by
  obtain ⟨-, -, hsh, -⟩ := check_shape (issE_check hm)
  obtain ⟨hS, ha, l1, l4, f0, f1⟩ := shape_share ok hsh
  intro e
  have := newL_len s
  rw [e, shareV_len hS, ws_len] at this
  simp at this
  omega
theorem EL.issued {B : BookV} (h : EL B) {s : SaleV} (ok : SaleOk s) (hm : B.issE s = 0) : EL (B.issued s) := by
  have m := made_i ok hm
  refine ⟨h.ex.issued ok hm, h.ks.issued s, fun d hd => ?_, fun d hd => ?_⟩
  · rcases List.mem_append.1 (show d ∈ B.docs ++ [docMade B.nextT s] from hd) with hd | hd
    · exact h.lf d hd
    · rw [List.mem_singleton.1 hd]; exact ⟨Int.le_refl _, by show (0 : Int) ≤ _; decide⟩
  · rcases List.mem_append.1 (show d ∈ B.docs ++ [docMade B.nextT s] from hd) with hd | hd
    · rw [coupL_issued_ne (nextT_fresh h.ex.bk d hd)]; exact h.ne d hd
    · rw [List.mem_singleton.1 hd]
      show coupL (B.issued s) B.nextT ≠ []
      rw [coupL_issued (h.ks.next h.ex.bk) m.vl]; exact newL_ne ok hm
theorem doX_ok {B : BookV} (h : ExOk B) {x : Act17} (ok : SaleOk x.s) : ExOk (doX B x).b := by
  unfold doX
  by_cases g0 : x.d = 0
  · rw [if_pos g0]; exact exIssue_ok h ok
  rw [if_neg g0]
  by_cases g1 : x.d = 1
  · rw [if_pos g1]; exact exDisplay_ok h x.t
  rw [if_neg g1]
  by_cases g2 : x.d = 2
  · rw [if_pos g2]; exact exVoid_ok h x.t
  rw [if_neg g2]
  by_cases g3 : x.d = 3
  · rw [if_pos g3]; exact exRefund_ok h x.t
  rw [if_neg g3]; exact exExchange_ok h x.t ok
end Go.Proofs.YtifapcpcemigdaaGreat
end
section
namespace Go.Proofs.YtifapcpcemigdaaGreat
open Go.RowKit Go.Lib Go.Tk Go.Shelf Go.Vc Go.Sx
def InB (s : Int) : Prop := 0 ≤ s ∧ s ≤ 255
inductive OSt : OwnV → OwnV → Prop
  | asked (y : OwnV) (b : Bool) : OSt y { y with asked := b }
  | give (y : OwnV) (c : Int) : y.away = false → y.k.s = 1 → InB c → OSt y (givenO y c)
  | back (y : OwnV) : y.away = true → OSt y (backO y)
  | use (y : OwnV) (cmd : Int) : useB cmd = true → y.away = false → (nextI y.k.s cmd).2 = 0 → OSt y (usedO y (nextI y.k.s cmd).1)
  | pay (y : OwnV) : y.away = true → y.paid = false → OSt y (paidO y)
def HsOk (B : BookV) : Prop := ∀ k h, lkt B.helds k = some h → InB h.k.s
inductive Mv : BookV → BookV → Prop
  | refl (B) : Mv B B
  | own (B k y z) : lkt B.owns k = some y → OSt y z → Mv B (B.setO k z)
  | held (B k h) : (HsOk B → InB h.k.s) → Mv B (B.setH k h)
structure MvR (B : BookV) (q : HR) : Prop where
  mv : ∃ D, Mv B D ∧ Mv D q.b
  dst : (∀ k o, lkt B.owns k = some o → InB o.dst) → ∀ x ∈ q.out, InB x.dst
  one : q.out.length ≤ 1
theorem bcs {α : Type} {p : α → Prop} (b : Bool) {x y : α} (h1 : b = true → p x) (h2 : b = false → p y) : p (bif b then x else y) := by
  cases b
  · exact h2 rfl
  · exact h1 rfl
theorem MvR.no {B : BookV} (e : Int) : MvR B ⟨[], e, B⟩ := ⟨⟨B, .refl B, .refl B⟩, fun _ x hx => (by cases hx), Nat.zero_le _⟩
theorem MvR.say {B : BookV} (x : OutV) (e : Int) (h : InB x.dst) : MvR B ⟨[x], e, B⟩ := ⟨⟨B, .refl B, .refl B⟩, fun _ y hy => by rw [List.mem_singleton.1 hy]; exact h, Nat.le_refl _⟩
theorem MvR.one' {B C : BookV} {x : OutV} {e : Int} (h : Mv B C) (hd : (∀ k o, lkt B.owns k = some o → InB o.dst) → InB x.dst) : MvR B ⟨[x], e, C⟩ := ⟨⟨C, h, .refl C⟩, fun g y hy => by rw [List.mem_singleton.1 hy]; exact hd g, Nat.le_refl _⟩
theorem MvR.still {B C : BookV} {e : Int} (h : Mv B C) : MvR B ⟨[], e, C⟩ := ⟨⟨C, h, .refl C⟩, fun g y hy => (by cases hy), Nat.zero_le _⟩
theorem hs_get {B : BookV} (k : Kid) (h : HsOk B) : InB ((lkt B.helds k).getD held0).k.s := by
  cases e : lkt B.helds k with
  | none => exact ⟨by show (0 : Int) ≤ 0; decide, by show (0 : Int) ≤ 255; decide⟩
  | some x => exact h k x e
theorem ofs_own {B : BookV} {k : Kid} (h : (!(lkt B.owns k).isSome) = false) : lkt B.owns k = some ((lkt B.owns k).getD own0) := by
  cases h1 : lkt B.owns k with
  | none => rw [h1] at h; cases h
  | some y => rfl
theorem ofs_get {B : BookV} {k : Kid} (h : (lkt B.owns k).isSome = true) : lkt B.owns k = some ((lkt B.owns k).getD own0) := ofs_own (by rw [h]; rfl)
theorem toI_in {s c v : Int} (h : toI s c = some v) : InB v := by
  unfold toI at h
  unfold InB
  repeat' split at h
  all_goals first | (cases h; done) | (simp only [Option.some.injEq] at h; omega)
theorem next_in (s c : Int) : InB (nextI s c).1 := by
  unfold nextI
  cases isB s && cmdB c with
  | false => exact ⟨by show (0 : Int) ≤ 0; decide, by show (0 : Int) ≤ 255; decide⟩
  | true =>
    cases hv : toI s c with
    | none => exact ⟨by show (0 : Int) ≤ 0; decide, by show (0 : Int) ≤ 255; decide⟩
    | some v => exact toI_in hv
theorem not_dec {p : Prop} [Decidable p] (h : (!decide p) = false) : p := of_decide_eq_true (by cases e : decide p with | true => rfl | false => rw [e] at h; cases h)
theorem want_mv {B : BookV} {k : Kid} (hk : InB k.t.c) : MvR B (wantQ B k) := by
  unfold wantQ
  exact bcs _ (fun _ => .no 6) fun _ => bcs _ (fun _ => .one' (.held B k _ fun h => hs_get k h) fun _ => hk) fun _ => .no _
theorem return_mv {B : BookV} {k : Kid} (hk : InB k.t.c) : MvR B (returnQ B k) := by
  unfold returnQ
  exact bcs _ (fun _ => .no 4) fun _ => bcs _ (fun _ => .no 160) fun _ => bcs _ (fun _ => .no 6) fun _ => .one' (.held B k _ fun h => hs_get k h) fun _ => hk
theorem recall_mv (B : BookV) (k : Kid) : MvR B (recallQ B k) := by
  unfold recallQ
  exact bcs _ (fun _ => .no 4) fun h1 => bcs _ (fun _ => .no 6) fun _ => .one' (.own B k _ _ (ofs_own h1) (.asked _ true)) fun g => g k _ (ofs_own h1)
theorem hwant_mv {B : BookV} {c : Int} (hc : InB c) (k : Kid) : MvR B (hwantQ B c k) := by
  unfold hwantQ
  exact bcs _ (fun _ => .say _ _ hc) fun h1 => bcs _ (fun _ => .say _ _ hc) fun h2 => bcs _ (fun _ => .say _ _ hc) fun _ => bcs _ (fun _ => .say _ _ hc) fun h3 => bcs _ (fun _ => .say _ _ hc) fun _ => .one' (.own B k _ _ (ofs_own h1) (.give _ c h2 (not_dec h3) hc)) fun _ => hc
theorem hgrant_mv {B : BookV} (c : Int) {m : MsV} (hm : InB m.k.s) : MvR B ⟨[], (hgrantQ B c m).e, (hgrantQ B c m).b⟩ := by
  have h : Mv B (hgrantQ B c m).b := by
    unfold hgrantQ
    exact bcs (p := fun q : HR => Mv B q.b) _ (fun _ => .refl B) fun _ => bcs (p := fun q : HR => Mv B q.b) _ (fun _ => .refl B) fun _ => .held B _ _ fun _ => hm
  exact .still h
theorem href_mv (B : BookV) (c : Int) (k : Kid) : MvR B ⟨[], 0, hrefB B c k⟩ := by
  have h1 : Mv B (hrefH B c k) := by
    unfold hrefH
    exact bcs (p := fun q => Mv B q) _ (fun _ => .held B k _ fun h => hs_get k h) fun _ => .refl B
  refine ⟨⟨_, h1, ?_⟩, fun _ x hx => (by cases hx), Nat.zero_le _⟩
  unfold hrefB
  refine bcs (p := fun q => Mv (hrefH B c k) q) _ (fun h => ?_) fun _ => .refl _
  unfold isAway at h
  rw [Bool.and_eq_true] at h
  exact .own _ k _ _ (ofs_get h.1) (.asked _ false)
theorem hrecall_mv {B : BookV} {c : Int} (hc : InB c) {k : Kid} (hk : InB k.t.c) : MvR B (hrecallQ B c k) := by
  unfold hrecallQ
  exact bcs _ (fun _ => .no 0) fun _ => bcs _ (fun _ => .say _ _ hc) fun _ => .one' (.held B k _ fun h => hs_get k h) fun _ => hk
theorem hret_mv (B : BookV) (c : Int) (m : MsV) : MvR B ⟨[], 0, hretB B c m⟩ := by
  have h : Mv B (hretB B c m) := by
    unfold hretB
    refine bcs (p := fun q => Mv B q) _ (fun h => ?_) fun _ => .refl B
    unfold isAway at h
    rw [Bool.and_eq_true, Bool.and_eq_true, Bool.and_eq_true] at h
    exact .own _ m.key _ _ (ofs_get h.1.1) (.back _ h.1.2.1)
  exact .still h
theorem hear_mv {B : BookV} {c : Int} (hc : InB c) {m : MsV} (hm : InB m.k.s) (hk : InB m.key.t.c) : MvR B (hearQ B c m) := by
  unfold hearQ
  refine bcs _ (fun _ => .no 1) fun _ => ?_
  unfold hearDo
  exact bcs _ (fun _ => hwant_mv hc m.key) fun _ => bcs _ (fun _ => hgrant_mv c hm) fun _ => bcs _ (fun _ => href_mv B c m.key) fun _ => bcs _ (fun _ => hrecall_mv hc hk) fun _ => hret_mv B c m
theorem use_mv {B : BookV} {k : Kid} (hk : InB k.t.c) (cmd : Int) : MvR B (useQ B k cmd) := by
  unfold useQ
  refine bcs _ (fun _ => .no 1) fun hu => bcs _ (fun _ => ?_) fun _ => ?_
  · have h : Mv B (useOwn B k cmd).b := by
      unfold useOwn
      refine bcs (p := fun q : HR => Mv B q.b) _ (fun _ => .refl B) fun h1 => bcs (p := fun q : HR => Mv B q.b) _ (fun _ => .refl B) fun h2 => bcs (p := fun q : HR => Mv B q.b) _ (fun _ => .refl B) fun h3 => .own _ k _ _ (ofs_own h1) (.use _ cmd (by rw [Bool.not_eq_false'] at hu; exact hu) ?_ (not_dec h3))
      rw [Bool.or_eq_false_iff] at h2
      exact h2.1
    exact .still h
  · unfold useHeld
    refine bcs _ (fun _ => .no 4) fun _ => bcs _ (fun _ => .no 160) fun _ => bcs _ (fun _ => .no _) fun _ => ?_
    have h : Mv B (B.setH k (usedH ((lkt B.helds k).getD held0) (nextI ((lkt B.helds k).getD held0).k.s cmd).1)) := .held B k _ fun _ => next_in _ _
    cases decide ((nextI ((lkt B.helds k).getD held0).k.s cmd).1 = 4)
    · exact .still h
    · exact .one' h fun _ => hk
theorem bill_mv {B : BookV} {k : Kid} (hk : InB k.t.c) (amt : Int) : MvR B (billQ B k amt) := by
  unfold billQ
  exact bcs _ (fun _ => .no 4) fun h1 => bcs _ (fun _ => .no 160) fun _ => bcs _ (fun _ => .no 6) fun _ => bcs _ (fun _ => .no 7) fun _ => .one' (.held B k _ fun h => hs_get k h) fun _ => hk
theorem hbill_mv {B : BookV} {c : Int} (hc : InB c) (m : MsV) : MvR B (hbillQ B c m) := by
  unfold hbillQ
  refine bcs _ (fun _ => .say _ _ hc) fun h1 => bcs _ (fun _ => .say _ _ hc) fun h2 => bcs _ (fun _ => .say _ _ hc) fun h3 => bcs _ (fun _ => .say _ _ hc) fun _ => .one' (.own B m.key _ _ (ofs_own h1) (.pay _ ?_ h3)) fun _ => hc
  rw [Bool.or_eq_false_iff, Bool.not_eq_false'] at h2
  exact h2.1
theorem hans_mv (B : BookV) (c : Int) (m : MsV) : MvR B ⟨[], 0, hansB B c m⟩ := by
  have h : Mv B (hansB B c m) := by
    unfold hansB
    exact bcs (p := fun q => Mv B q) _ (fun _ => .held B m.key _ fun h => hs_get m.key h) fun _ => .refl B
  exact .still h
theorem hearB_mv {B : BookV} {c : Int} (hc : InB c) (m : MsV) : MvR B (hearBQ B c m) := by
  unfold hearBQ
  exact bcs _ (fun _ => .no 1) fun _ => bcs _ (fun _ => hbill_mv hc m) fun _ => hans_mv B c m
theorem hearO_mv {B : BookV} {c : Int} (hc : InB c) {m : MsV} (hm : InB m.k.s) (hk : InB m.key.t.c) : MvR B (hearO B c m) := by
  unfold hearO
  exact bcs _ (fun _ => hearB_mv hc m) fun _ => hear_mv hc hm hk
theorem coup_mv {B : BookV} {c : CmdO} (hk : InB c.t.c) : MvR B (coupQ B c) := by
  unfold coupQ
  split
  · exact want_mv hk
  split
  · exact return_mv hk
  split
  · exact recall_mv B _
  split
  · exact bill_mv hk _
  exact use_mv hk _
end Go.Proofs.YtifapcpcemigdaaGreat
end
