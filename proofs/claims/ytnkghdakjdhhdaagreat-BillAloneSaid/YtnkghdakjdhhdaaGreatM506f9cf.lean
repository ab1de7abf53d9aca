/- BkC4, Sm0, Bs3, Rf14. -/
import Derived.Test.YtnkghdakjdhhdaaGreatM588466c
import Derived.Test.YtnkghdakjdhhdaaGreatM533403a
import Derived.Test.YtnkghdakjdhhdaaGreatM421640f
set_option maxRecDepth 100000
set_option linter.unusedVariables false
set_option linter.unusedSimpArgs false
set_option linter.unusedSectionVars false
section
namespace Go.Proofs.YtnkghdakjdhhdaaGreat
open Go.RowKit Go.Lib Go.Tk Go.Shelf Go.Vc Go.Sx Go.Maps
theorem clone_v {f : Nat} {kt : TypeId} {κ α : Type} {K : KeyKind Tryz.prog kt κ} {enc : α → Value} {L : List (κ × α)} (k m : Nat)
    (hf : ∀ (b : Nat) (es : Array MapEntry) (clock : Nat) (w : World), w.heap[b]? = some (.map es clock) → Calls Tryz.prog f #[.map (some b)] w fun e w' => e = .returned (.map (some w.heap.size)) ∧ w' = w.alloc (.map es clock)) :
    CallOK Tryz.prog f [.val (.map (some m))] [((0, k), .fam fun _ _ => mapC K m (ents enc L))] [] (.map 1 0) [((1, 0), .fam (mapT K enc L))] := by
  intro ε R w hM
  have hM : Mem (mapC K m (ents enc L) :: R) w := hM
  obtain ⟨es, clock, hb, h2⟩ := hM.map 0 rfl
  refine (hf m es clock w hb).mono ?_
  rintro e w' ⟨rfl, rfl⟩
  have h1 : Mem (mapC K w.heap.size (ents enc L) :: mapC K m (ents enc L) :: R) (w.alloc (.map es clock)) := hM.fresh (below_alloc _ _) (fun k => k = w.heap.size) ⟨rfl, es, clock, show (w.heap.push _)[w.heap.size]? = _ from Array.getElem?_push_size, h2⟩ (fun k hk => by subst hk; exact ⟨Nat.le_refl _, by simp⟩)
  have h1 := h1.front 1 rfl
  have e1 : ∀ x : Nat → Nat × Value, eset ε 1 x 1 = x := fun x => by simp [eset]
  refine ⟨fun _ => (w.heap.size, undef), by simp only [SV.den]; rw [e1], ?_⟩
  show Mem (mapC K m (ents enc L) :: mapC K (eset ε 1 _ 1 0).1 (ents enc L) :: R) _
  rw [e1]
  exact h1
theorem perm_lift {α β : Type} {f : α → β} : ∀ (r : List β) (l : List α), r.Perm (l.map f) → ∃ l', l'.map f = r ∧ l.Perm l'
  | [], l, h => by
    have : l = [] := List.map_eq_nil_iff.1 (List.nil_perm.1 h)
    subst this
    exact ⟨[], rfl, List.Perm.refl _⟩
  | x :: r, l, h => by
    obtain ⟨p, l', hp, hl, hr⟩ := perm_head' h
    obtain ⟨l2, h2, h3⟩ := perm_lift r l' hr
    exact ⟨p :: l2, by rw [List.map_cons, hp, h2], hl.trans (h3.cons p)⟩
theorem docsX_perm {ds ds' : List DocV} (hp : ds'.Perm ds) {b : Nat} {v : Value} {S : Nat → Prop} {w : World} (h : (docsX ds b v).at_ S w) : (docsX ds' b v).at_ S w := by
  obtain ⟨⟨L, hL⟩, h⟩ := h
  obtain ⟨L', h1, h2⟩ := perm_lift ds' L (by rw [hL]; exact hp)
  refine ⟨⟨L', h1⟩, ⟨h.1.1, h.1.2.perm ?_⟩, ?_⟩
  · unfold ents docKV
    exact (h2.map _).map _
  · obtain ⟨Sd, g1, g2, -⟩ := h.2
    exact ⟨Sd, g1, fun p hp => g2 p (h2.mem_iff.2 hp), fun p hp => by cases hp⟩
def CloneBF : Nat := 12
abbrev DocL (B : BookV) := { L : List (DocV × DocA) // L.map (·.1) = B.docs }
def oldB (B : BookV) (a : BkA) : SC := .box none [.val (.int .u8 B.self), .val (.int .i64 B.n), .val (.map (some a.d)), .val (.map (some a.o)), .val (.map (some a.h))]
def oldH (B : BookV) (a : BkA) : Heap := [((0, 0), oldB B a), ((0, 2), .fam fun _ _ => mapC kidK a.o (ents ownW B.owns)), ((0, 3), .fam fun _ _ => mapC kidK a.h (ents heldW B.helds))]
def newB (B : BookV) : Heap := [((1, 0), .box none [.val (.int .u8 B.self), .val (.int .i64 B.n), .map 1 1, .map 1 2, .map 1 3]), ((1, 2), ownsF B.owns), ((1, 3), heldsF B.helds)]
theorem clone_b (B : BookV) (hk : ∀ d ∈ B.docs, TidOk d.t ∧ DocSmall d) (hn : (B.docs.map (·.t)).Nodup) : CallOK Tryz.prog CloneBF [.ptr 0 0 0] [] (bkC B) (.ptr 1 0 0) (bkC B ++ [((1, 0), .fam (bookF B))]) := by
  refine callOK_intro (by kernel_rfl) fun eb R => ?_
  refine go_open (X := BkA × DocL B) (fun x => oldH B x.1 ++ [((0, 1), .fam fun _ _ => mapC tidK x.1.d (ents docW (docKV x.2.1))), ((0, 5), .fam fun _ _ => rowsC x.2.1)])
    (fun ε w hM => by
      obtain ⟨a, h⟩ := Mem.ex hM
      have h2 := h.all.front 1 rfl
      obtain ⟨L, h3⟩ := Mem.ex h2
      have h4 := docs_split h3
      exact ⟨(a, L), ((h4.front 4 rfl).front 4 rfl).front 4 rfl⟩) (fun x => by kernel_rfl) fun x => ?_
  obtain ⟨a, L, hL⟩ := x
  have c1 := clone_v (K := kidK) (enc := ownW) (L := B.owns) 2 a.o cloneO_any
  have c2 := clone_v (K := kidK) (enc := heldW) (L := B.helds) 3 a.h cloneH_any
  refine leaf_cut (rgK Tryz.prog CloneBF 4 []) [(0, .ptr 0 0 0), (3, .ptr 1 0 0)] (oldH B a ++ [((0, 1), .fam fun _ _ => mapC tidK a.d (ents docW (docKV L))), ((0, 5), .fam fun _ _ => rowsC L)] ++ newB B ++ [((1, 1), .obj [] 0)]) calNone false 400 [hC 3 13 c1, hC 3 18 c2, .stop 4] calNone_ok (by kernel_rfl) ?_
  refine go_open (X := Unit) (fun _ => [((1, 1), .fam (docsX []))] ++ (oldH B a ++ [((0, 1), .fam fun _ _ => mapC tidK a.d (ents docW (docKV L))), ((0, 5), .fam fun _ _ => rowsC L)] ++ newB B)) (fun ε w hM => by
      have h1 : Mem (docsX [] (ε 1 1).1 (ε 1 1).2 :: (hden ε (oldH B a ++ [((0, 1), .fam fun _ _ => mapC tidK a.d (ents docW (docKV L))), ((0, 5), .fam fun _ _ => rowsC L)] ++ newB B) ++ R)) w := (hM.front 8 rfl).weaken (c' := docsX [] (ε 1 1).1 (ε 1 1).2) (fun S hS => obj_docs hS)
      exact ⟨(), h1⟩) (fun x => by kernel_rfl) fun _ => ?_
  have r1 := rangeG (P := Tryz.prog) (K := tidK) (t := DT) (m := a.d) (j := 1) (L := ents docW (docKV L)) Tryz.underlying117
  have d1 := next_doneG (P := Tryz.prog) (K := tidK) (m := a.d) (L := ents docW (docKV L))
  refine go_loop (X := { x : List (Tid × (DocV × DocA)) × List (Tid × (DocV × DocA)) // (docKV L).Perm (x.1 ++ x.2) }) 0 [] (fun x => ([(0, .ptr 0 0 0), (3, .ptr 1 0 0), (33, .ptr 1 9 0)],
      oldH B a ++ [((0, 5), .fam fun _ _ => rowsC L), ((1, 9), .fam fun r _ => rngC tidK r a.d (ents docW (docKV L)) (ents docW x.1.2))] ++ newB B ++ [((1, 1), .fam (docsX (x.1.1.map (·.2.1))))]))
    (fun x => x.1.2.length) ⟨([], docKV L), List.Perm.refl _⟩ calNone false 400 [hG 4 4 r1] calNone_ok (by kernel_rfl) ?_
  rintro ⟨⟨done, left⟩, hd⟩ J hJ
  cases left with
  | cons x l =>
    have m1 := next_moreG (P := Tryz.prog) (K := tidK) (m := a.d) (L := ents docW (docKV L)) (left := ents docW (x :: l)) (by simp [ents])
    refine leaf_cut (rgK Tryz.prog CloneBF 6 [J]) [(0, .ptr 0 0 0), (3, .ptr 1 0 0), (33, .ptr 1 9 0)]
      ([((1, 9), .fam fun r _ => exC fun (y : (Tid × Value) × List (Tid × Value)) => curC tidK r a.d (ents docW (docKV L)) (ents docW (x :: l)) y.1 y.2)] ++ (oldH B a ++ [((0, 5), .fam fun _ _ => rowsC L)] ++ newB B ++ [((1, 1), .fam (docsX (done.map (·.2.1))))]))
      calNone false 400 [hG 5 0 m1, .stop 6] calNone_ok (by kernel_rfl) ?_
    refine go_open (X := { y : (Tid × (DocV × DocA)) × List (Tid × (DocV × DocA)) // (x :: l).Perm (y.1 :: y.2) }) (fun y => [((1, 9), .fam fun r _ => curC tidK r a.d (ents docW (docKV L)) (ents docW (x :: l)) (y.1.1.1, docW y.1.1.2) (ents docW y.1.2))] ++ (oldH B a ++ [((0, 5), .fam fun _ _ => rowsC L)] ++ newB B ++ [((1, 1), .fam (docsX (done.map (·.2.1))))]))
      (fun ε w hM => by obtain ⟨y, h⟩ := cur_typed hM; exact ⟨y, h⟩) (fun y => by kernel_rfl) ?_
    rintro ⟨⟨⟨k, p⟩, l'⟩, hp⟩
    have hd' : (docKV L).Perm ((done ++ [(k, p)]) ++ l') := by
      rw [List.append_assoc]
      exact hd.trans (List.Perm.append_left done hp)
    have hlt : l'.length < (x :: l).length := by have := hp.length_eq; simp only [List.length_cons] at this ⊢; omega
    have hmem : (k, p) ∈ docKV L := hd'.mem_iff.2 (by simp)
    obtain ⟨q, hq, hqe⟩ := List.mem_map.1 hmem
    injection hqe with e1 e2
    subst e2
    subst e1
    have hb : q.1 ∈ B.docs := by rw [← hL]; exact List.mem_map_of_mem hq
    have g1 := entryG (P := Tryz.prog) (K := tidK) (m := a.d) (L := ents docW (docKV L)) (left := ents docW (x :: l)) (left' := ents docW l') (p := (q.1.t, docW q)) (ks := .agg (tidS q.1.t)) (vs := .agg (docSA q.1 q.2)) (fun _ => rfl) (fun _ => rfl)
    have c3 := copied_rows L q hq (hk q.1 hb).2
    have hfresh : ∀ z ∈ done.map (·.2.1), z.t ≠ q.1.t := by
      have hnk : ((docKV L).map (·.1)).Nodup := by rw [docKV_map, hL]; exact hn
      have h5 := (hd'.map (·.1)).nodup_iff.1 hnk
      rw [List.map_append, List.map_append] at h5
      intro z hz
      obtain ⟨y, hy, rfl⟩ := List.mem_map.1 hz
      have hy2 : y ∈ docKV L := hd'.mem_iff.2 (List.mem_append_left _ (List.mem_append_left _ hy))
      obtain ⟨y', -, hye⟩ := List.mem_map.1 hy2
      intro e
      refine (List.nodup_append.1 (List.nodup_append.1 h5).1).2.2 y.1 (List.mem_map_of_mem hy) q.1.t (by simp) ?_
      rw [← hye] at e ⊢
      exact e
    have g2 := upd_docsN (done.map (·.2.1)) q.1 (hk q.1 hb).1 hfresh
    have ee : (done ++ [(q.1.t, q)]).map (·.2.1) = done.map (·.2.1) ++ [q.1] := by rw [List.map_append]; rfl
    rw [← ee] at g2
    exact leaf_round (lpK Tryz.prog CloneBF 0 []) false 400 [hG 6 0 g1, hC 7 6 c3, hG 7 7 g2] (hJ ⟨(done ++ [(q.1.t, q)], l'), hd'⟩ hlt) (by kernel_rfl)
  | nil =>
    rw [List.append_nil] at hd
    have hds : B.docs.Perm (done.map (·.2.1)) := by
      have := hd.map (·.2.1)
      unfold docKV at this
      rw [List.map_map] at this
      rw [← hL]
      exact this
    refine leaf_cut (rgK Tryz.prog CloneBF 8 []) [(3, .ptr 1 0 0)]
      (oldH B a ++ [((0, 5), .fam fun _ _ => rowsC L), ((1, 9), .fam fun r _ => rngC tidK r a.d (ents docW (docKV L)) [])] ++ newB B ++ [((1, 1), .fam (docsX (done.map (·.2.1))))])
      calNone false 400 [hG 5 0 d1, .stop 8] calNone_ok (by kernel_rfl) ?_
    refine go_open (X := Unit) (fun _ => [((0, 0), .fam (bookF B)), ((1, 0), .fam (bookF B))]) (fun ε w hM => ⟨(), by
      have hM : Mem (boxE none (ε 0 0).1 #[.int .u8 B.self, .int .i64 B.n, .map (some a.d), .map (some a.o), .map (some a.h)] :: mapC kidK a.o (ents ownW B.owns) :: mapC kidK a.h (ents heldW B.helds) :: rowsC L :: rngC tidK (ε 1 9).1 a.d (ents docW (docKV L)) [] :: boxE none (ε 1 0).1 #[.int .u8 B.self, .int .i64 B.n, .map (some (ε 1 1).1), .map (some (ε 1 2).1), .map (some (ε 1 3).1)] :: mapT kidK ownW B.owns (ε 1 2).1 (ε 1 2).2 :: mapT kidK heldW B.helds (ε 1 3).1 (ε 1 3).2 :: docsX (done.map (·.2.1)) (ε 1 1).1 (ε 1 1).2 :: R) w := hM
      have h1 := (hM.front 8 rfl).weaken (c' := docsX B.docs (ε 1 1).1 undef) fun S hS => docsX_perm hds hS
      have h2 := (h1.front 5 rfl).weaken (c' := mapC tidK a.d (ents docW (docKV L))) fun S hS => ⟨hS.2.1, hS.2.2.map⟩
      have h3 := docs_shut (v := undef) ((h2.front 5 rfl).front 1 rfl)
      have h4 : Mem (docsX B.docs a.d undef :: _) w := Mem.in_ex ⟨L, hL⟩ h3
      have h5 := (((h4.front 7 rfl).front 7 rfl).front 3 rfl).front 7 rfl
      have h6 := Mem.in_ex (f := fun y : BkA => allC [boxE none (ε 1 0).1 #[.int .u8 B.self, .int .i64 B.n, .map (some y.d), .map (some y.o), .map (some y.h)], docsX B.docs y.d undef, mapT kidK ownW B.owns y.o undef, mapT kidK heldW B.helds y.h undef]) ⟨(ε 1 1).1, (ε 1 2).1, (ε 1 3).1⟩ (Mem.in_all (l := [_, _, _, _]) h5)
      have h7 := (((h6.front 4 rfl).front 4 rfl).front 3 rfl).front 4 rfl
      exact Mem.in_ex (f := fun y : BkA => allC [boxE none (ε 0 0).1 #[.int .u8 B.self, .int .i64 B.n, .map (some y.d), .map (some y.o), .map (some y.h)], docsX B.docs y.d undef, mapT kidK ownW B.owns y.o undef, mapT kidK heldW B.helds y.h undef]) a (Mem.in_all (l := [_, _, _, _]) h7)⟩) (fun _ => by kernel_rfl) fun _ => ?_
    exact leaf_end calNone false 400 [] calNone_ok (by kernel_rfl)
end Go.Proofs.YtnkghdakjdhhdaaGreat
end
section
namespace Go.Proofs.YtnkghdakjdhhdaaGreat
open Go.RowKit Go.Lib Go.Tk Go.Shelf Go.Vc Go.Sx Go.Maps
theorem len_val {kt : TypeId} {κ : Type} {K : KeyKind Tryz.prog kt κ} {m j n : Nat} {L : List (κ × Value)} (hn : L.length = n) :
    OpG Tryz.prog (isLenM Tryz.prog) lenX [.val (.map (some m))] [((0, j), .fam fun _ _ => mapC K m L)] [] (.val (.int .i64 (n : Int))) [] := by
  intro o ho
  unfold isLenM at ho
  split at ho <;> try (cases ho; done)
  rename_i c hop
  split at ho <;> try (cases ho; done)
  rename_i hc
  split at ho <;> try (cases ho; done)
  rename_i x t' ha ht
  split at ho <;> try (cases ho; done)
  rename_i k' e' hT
  have hx' : lenX o = [x] := by unfold lenX; rw [hop]; exact ha
  rw [hx']
  refine ⟨fun q hq => by rw [hop]; simp [Op.operands, Call.operands, hc]; have := arr_one ha; rw [this]; simpa using hq, fun ε ρ R w hx hM => ?_⟩
  simp only [List.map_cons, List.map_nil, SV.dens, SV.den, List.cons.injEq, and_true] at hx
  have hM : Mem (mapC K m L :: R) w := hM
  obtain ⟨es, clock, hb, hp, -⟩ := hM.of 0 rfl (φ := MapAt K w m L) (fun S hS => hS.2)
  have hlen : es.size = n := by have := hp.length_eq; simp at this; omega
  have := x_lenM (P := Tryz.prog) (ρ := ρ) (o := o) (w := w) hop hc (arr_one ha) ht hx hT hb
  rw [hlen] at this
  exact res_ok this ⟨fun _ => (0, undef), by simp only [SV.den], hM⟩
def sameM {κ α : Type} [DecidableEq κ] [DecidableEq α] (L M : List (κ × α)) : Bool := decide (L.length = M.length) && L.all fun p => decide (lkt M p.1 = some p.2)
theorem sameM_self {κ α : Type} [DecidableEq κ] [DecidableEq α] {L : List (κ × α)} (h : (L.map (·.1)).Nodup) : sameM L L = true := by
  unfold sameM
  rw [decide_eq_true rfl, Bool.true_and, List.all_eq_true]
  exact fun p hp => decide_eq_true (lkt_of h hp)
theorem sameM_len {κ α : Type} [DecidableEq κ] [DecidableEq α] {L M : List (κ × α)} (h : L.length ≠ M.length) : sameM L M = false := by
  unfold sameM; rw [decide_eq_false h]; rfl
theorem sameM_bad {κ α : Type} [DecidableEq κ] [DecidableEq α] {L M : List (κ × α)} {p : κ × α} (hp : p ∈ L) (h : lkt M p.1 ≠ some p.2) : sameM L M = false := by
  unfold sameM
  rw [Bool.and_eq_false_iff]
  refine .inr ?_
  rw [Bool.eq_false_iff]
  intro e
  exact h (of_decide_eq_true (List.all_eq_true.1 e p hp))
theorem sameM_mk {κ α : Type} [DecidableEq κ] [DecidableEq α] {L M : List (κ × α)} (hl : L.length = M.length) (h : ∀ p ∈ L, lkt M p.1 = some p.2) : sameM L M = true := by
  unfold sameM
  rw [decide_eq_true hl, Bool.true_and, List.all_eq_true]
  exact fun p hp => decide_eq_true (h p hp)
def legEq (a b : Leg) : Bool := decide (a.c = b.c) && (decide (a.f = b.f) && (decide (a.x = b.x) && true))
def cpnEq (a b : Cpn) : Bool := legEq a.l b.l && (decide (a.v = b.v) && (decide (a.s = b.s) && (decide (a.n = b.n) && true)))
def ownEq (a b : OwnV) : Bool := cpnEq a.k b.k && ((a.away == b.away) && (decide (a.dst = b.dst) && ((a.paid == b.paid) && ((a.asked == b.asked) && true))))
def heldEq (a b : HeldV) : Bool := cpnEq a.k b.k && ((a.here == b.here) && ((a.paid == b.paid) && ((a.wanted == b.wanted) && ((a.billed == b.billed) && true))))
theorem cpnEq_iff (a b : Cpn) : cpnEq a b = true ↔ a = b := by
  obtain ⟨⟨a1, a2, a3⟩, a4, a5, a6⟩ := a
  obtain ⟨⟨b1, b2, b3⟩, b4, b5, b6⟩ := b
  simp [cpnEq, legEq, and_assoc]
theorem ownEq_iff (a b : OwnV) : ownEq a b = true ↔ a = b := by
  obtain ⟨a1, a2, a3, a4, a5⟩ := a
  obtain ⟨b1, b2, b3, b4, b5⟩ := b
  unfold ownEq
  rw [Bool.and_eq_true, cpnEq_iff]
  simp
theorem heldEq_iff (a b : HeldV) : heldEq a b = true ↔ a = b := by
  obtain ⟨a1, a2, a3, a4, a5⟩ := a
  obtain ⟨b1, b2, b3, b4, b5⟩ := b
  unfold heldEq
  rw [Bool.and_eq_true, cpnEq_iff]
  simp
theorem ownEq_no {a b : OwnV} (h : a ≠ b) : ownEq a b = false := by
  cases e : ownEq a b with
  | false => rfl
  | true => exact absurd ((ownEq_iff a b).1 e) h
theorem heldEq_no {a b : HeldV} (h : a ≠ b) : heldEq a b = false := by
  cases e : heldEq a b with
  | false => rfl
  | true => exact absurd ((heldEq_iff a b).1 e) h
theorem map_facts {kt : TypeId} {κ α : Type} {K : KeyKind Tryz.prog kt κ} {enc : α → Value} {L : List (κ × α)} {m : Nat} {R : List Chunk} {w : World} (h : Mem (mapC K m (ents enc L) :: R) w) : (L.map (·.1)).Nodup ∧ ∀ p ∈ L, K.ok p.1 := by
  obtain ⟨es, clock, hb, hp, hn, hk, -⟩ := h.of 0 rfl (φ := MapAt K w m (ents enc L)) (fun S hS => hS.2)
  refine ⟨by unfold ents at hn; rwa [List.map_map] at hn, fun p hp' => ?_⟩
  exact hk (p.1, enc p.2) (List.mem_map_of_mem (f := fun p : κ × α => (p.1, enc p.2)) hp')
end Go.Proofs.YtnkghdakjdhhdaaGreat
end
section
namespace Go.Proofs.YtnkghdakjdhhdaaGreat
open Go.RowKit Go.Lib Go.Tk Go.Shelf Go.Vc Go.Sx
structure Act15Rd (F : CF) (x : Act15) : Prop where
  ok : SaleOk x.s
  hl : ∀ b v, Rd (F b v) x.A.la (cellsL encLeg x.s.legs)
  ht : ∀ b v, Rd (F b v) x.A.ta (cellsL encTax x.s.taxes)
  h1 : SlOk x.A.la x.s.legs.length x.A.lc
  h2 : SlOk x.A.ta x.s.taxes.length x.A.tc
  k : KidOk x.k
  o : OwnOk x.o
theorem book_keys {B : BookV} {b : Nat} {v : Value} {R : List Chunk} {w : World} (h : Mem (bookF B b v :: R) w) : ∀ p ∈ B.helds, KidOk p.1 := by
  obtain ⟨a, h1⟩ := Mem.ex h
  have h4 : Mem (mapC kidK a.h (ents heldW B.helds) :: _) w := h1.all.front 3 rfl
  exact (map_facts h4).2
theorem act15Rd_of {w : World} {x : Act15} (h : Act15In w x) (h1 : x.s.legs.length ≤ 1000) (h2 : x.s.taxes.length ≤ 1000) : Act15Rd (fun _ _ => oldC w) x where
  ok := h.ok.small h1 h2
  hl := fun _ _ => rd_old h.at_.legs
  ht := fun _ _ => rd_old h.at_.taxes
  h1 := slOk_row h.at_.legs (fun _ e => by rw [cellsL_len encLeg_len] at e; omega) h.at_.lnil
  h2 := slOk_row h.at_.taxes (fun _ e => by rw [encTaxL_len] at e; omega) h.at_.tnil
  k := h.k
  o := h.ov
end Go.Proofs.YtnkghdakjdhhdaaGreat
end
section
namespace Go.Proofs.YtnkghdakjdhhdaaGreat
open Go.RowKit Go.Lib Go.Tk Go.Shelf Go.Vc Go.Sx
theorem rown_c (D : CF) (B : RefV) (k : Kid) (hn : B.owns.length ≤ 9223372036854775807) : CallOK Tryz.prog ROwnF [.ptr 0 0 0, .agg (kidS k)] (rfC D B) [] (.val (.int .i64 (rIx B.owns k))) [] := rshutR (rown_w D B k hn) rfl rfl
def RefV.issue (R : RefV) (s : SaleV) (A : SaleA) : RefV := bif decide (R.issE s = 0) then R.issued s A else R
def RefV.setO (R : RefV) (k : Kid) (o : OwnV) : RefV := bif decide (0 ≤ rIx R.owns k) then { R with owns := R.owns.set (rIx R.owns k).toNat (k, o) } else R
def stepR (R : RefV) (x : Act15) : RefV := if x.d = 0 then R.issue x.s x.A else if x.d = 2 then R.setO x.k x.o else if x.d = 3 then R.setH x.k x.h else R
def runR (R : RefV) (acts : List Act15) : Nat → RefV
  | 0 => R
  | i + 1 => stepR (runR R acts i) (acts.getD i act15Z)
structure RI (R : RefV) : Prop where
  hs : 0 ≤ R.self ∧ R.self ≤ 255
  hd : R.docs.length ≤ 32
  ho : R.owns.length ≤ 4 * R.docs.length
  hh : R.helds.length ≤ 64
theorem RefV.issE_ok {R : RefV} {s : SaleV} (ok : SaleOk s) (h : R.issE s = 0) : R.docs.length < 32 ∧ (shareV s.fare (wsOf s)).length = s.legs.length ∧ 1 ≤ s.legs.length ∧ s.legs.length ≤ 4 := by
  have g1 : decide ((32 : Int) ≤ (R.docs.length : Int)) = false := by
    cases h1 : decide ((32 : Int) ≤ (R.docs.length : Int)) with
    | false => rfl
    | true => unfold RefV.issE at h; rw [h1] at h; cases h
  have hm : makeE R.self ((R.docs.length : Int) + 1) s R.n = 0 := by unfold RefV.issE at h; rw [g1] at h; exact h
  have hck : checkE s R.n = 0 := by
    unfold makeE at hm
    split at hm
    · cases hm
    · exact hm
  obtain ⟨-, -, hsh, -⟩ := check_shape hck
  obtain ⟨hS, -, l1, l4, -, -⟩ := shape_share ok hsh
  exact ⟨by have := of_decide_eq_false g1; omega, by rw [shareV_len hS, ws_len], by omega, by omega⟩
theorem RI.issue {R : RefV} (h : RI R) {s : SaleV} (ok : SaleOk s) (A : SaleA) : RI (R.issue s A) := by
  unfold RefV.issue
  rcases Bool.eq_false_or_eq_true (decide (R.issE s = 0)) with e | e <;> rw [e]
  · obtain ⟨h1, h2, h3, h4⟩ := R.issE_ok ok (of_decide_eq_true e)
    have e1 : (R.docs ++ [(docMade R.nextT s, A)]).length = R.docs.length + 1 := by rw [List.length_append]; rfl
    refine ⟨h.hs, ?_, ?_, h.hh⟩
    · show (R.docs ++ [(docMade R.nextT s, A)]).length ≤ 32
      rw [e1]; omega
    · show (issR _ _ _ _ _).length ≤ 4 * (R.docs ++ [(docMade R.nextT s, A)]).length
      rw [issR_len, e1, h2]
      have := h.ho
      omega
  · exact h
theorem RI.setO {R : RefV} (h : RI R) (k : Kid) (o : OwnV) : RI (R.setO k o) := by
  unfold RefV.setO
  cases decide (0 ≤ rIx R.owns k)
  · exact h
  · exact ⟨h.hs, h.hd, by show (R.owns.set _ _).length ≤ _; rw [List.length_set]; exact h.ho, h.hh⟩
theorem insH_len (l : List (Kid × HeldV)) (k : Kid) (x : HeldV) : (insH l k x).length = l.length + 1 := by
  have := insIx_le l k
  unfold insH
  rw [List.length_append, List.length_append, List.length_take, List.length_drop, List.length_singleton]
  omega
theorem RI.setH {R : RefV} (h : RI R) (k : Kid) (x : HeldV) : RI (R.setH k x) := by
  unfold RefV.setH
  cases R.badK k
  · cases decide (0 ≤ rIx R.helds k)
    · rcases Bool.eq_false_or_eq_true (decide ((64 : Int) ≤ (R.helds.length : Int))) with g | g <;> rw [g]
      · exact h
      · exact ⟨h.hs, h.hd, h.ho, by show (insH _ _ _).length ≤ _; rw [insH_len]; have := of_decide_eq_false g; omega⟩
    · exact ⟨h.hs, h.hd, h.ho, by show (R.helds.set _ _).length ≤ _; rw [List.length_set]; exact h.hh⟩
  · exact h
theorem RI.step {R : RefV} (h : RI R) {x : Act15} (ok : SaleOk x.s) : RI (stepR R x) := by
  unfold stepR
  split
  · exact h.issue ok _
  split
  · exact h.setO _ _
  split
  · exact h.setH _ _
  exact h
def BuiltF : Nat := 11
def bltSl (a : Option Addr) (n cap i : Nat) : Slots := [(2, .val (.slice a n cap)), (8, .ptr 1 0 0), (10, .ptr 1 1 0), (11, .val (.int .i64 (i : Int)))]
def bltH (F : CF) (B : BookV) (R : RefV) : Heap := [((0, 9), .fam F), ((1, 0), .fam (bookF B)), ((1, 1), .fam (refF (rdX R.docs) R))]
theorem built_own (F : CF) {eb : Env} {R0 : List Chunk} {a : Option Addr} {n cap i : Nat} {x : Act15} {B : BookV} {R : RefV} (h : RI R) {ret : SV} {rp : Heap} {J : Act → World → Prop} (hi : i ≤ 1000000)
    (hJ : ∀ ε a' w, Rel (ntOf Tryz.prog BuiltF) 1 eb R0 ⟨bltSl a n cap (i + 1), bltH F B (R.setO x.k x.o), 2⟩ ε a' w → J a' w) :
    Go Tryz.prog BuiltF ret rp eb R0 .nrm (rgK Tryz.prog BuiltF 15 [J]) (bltSl a n cap i ++ [(12, .ptr 1 5 0)]) (bltH F B R ++ [((1, 5), .box none (act15X x))]) := by
  have c1 := rown_c (rdX R.docs) R x.k (by have := h.ho; have := h.hd; omega)
  have z9 : IntKind.i64.wrap ((i : Int) + 1) = ((i + 1 : Nat) : Int) := by rw [wr_i64 (by omega)]; omega
  unfold RefV.setO at hJ
  rcases rIx_cases R.owns x.k with ⟨e, -⟩ | ⟨q, o, e, hq, -⟩ <;> rw [e] at c1 hJ
  · rw [show decide ((0 : Int) ≤ -1) = false by decide] at hJ
    simp only [cond_false] at hJ
    exact leaf_round (lpK Tryz.prog BuiltF 0 []) false 400 [hC 15 3 c1, hI 7 1 IntKind.i64 _ _ z9] hJ (by kernel_rfl)
  · have hql := (List.getElem?_eq_some_iff.1 hq).1
    have z0 : decide ((0 : Int) ≤ (q : Int)) = true := decide_eq_true (by omega)
    rw [z0, Int.toNat_natCast] at hJ
    simp only [cond_true] at hJ
    refine leaf_cut (rgK Tryz.prog BuiltF 17 [J]) (bltSl a n cap i ++ [(12, .ptr 1 5 0), (13, .val (.int .i64 (q : Int)))]) (((1, 1), .fam (refF (rdX R.docs) R)) :: [((0, 9), .fam F), ((1, 0), .fam (bookF B)), ((1, 5), .box none (act15X x))]) calNone false 400 [hC 15 3 c1, .stop 17] calNone_ok (by kernel_rfl) ?_
    refine go_ref 1 11 12 13 (by kernel_rfl) (by kernel_rfl) (by kernel_rfl) (by kernel_rfl) ?_
    have q1 := q_idx (P := Tryz.prog) (t := 78) (i := q) (k := .i64) (E := 85) (size := 13) (enc := mineC) R.owns (fun _ => rfl) (by decide) (by kernel_rfl) hql
    have q2 := q_store (P := Tryz.prog) (t := 43) (b := q * 13) (j := 3) (cs := ownS x.o) (us := ownL x.o) (E := 85) (size := 13) (enc := mineC) R.owns (R.owns.set q (x.k, x.o)) (by kernel_rfl) (fun _ => rfl) rfl (by rw [cellsL_len mine_len]; omega) (by rw [cellsL_len mine_len]; show q * 13 + 3 + 10 ≤ _; omega) (List.length_set ..) (rown_store _ hq)
    refine leaf_cut (rgK Tryz.prog BuiltF 7 [J]) (bltSl a n cap i) (rfM (rdX R.docs) { R with owns := R.owns.set q (x.k, x.o) } (1, 1) (1, 11) (1, 12) (1, 13) ++ [((0, 9), .fam F), ((1, 0), .fam (bookF B))]) calNone false 400 [hG 17 7 q1, hG 17 9 q2, .stop 7] calNone_ok (by kernel_rfl) ?_
    refine go_open (X := Unit) (fun _ => [((1, 1), .fam (refF (rdX R.docs) { R with owns := R.owns.set q (x.k, x.o) })), ((0, 9), .fam F), ((1, 0), .fam (bookF B))]) (fun ε w hM => ⟨(), by
      rw [hden_append, List.append_assoc] at hM
      exact rfM_shut _ _ _ _ _ _ ε _ w hM⟩) (fun _ => by kernel_rfl) ?_
    intro _
    exact leaf_round (lpK Tryz.prog BuiltF 0 []) false 400 [hI 7 1 IntKind.i64 _ _ z9] hJ (by kernel_rfl)
theorem built_act (F : CF) {eb : Env} {R0 : List Chunk} {a : Option Addr} {cap i : Nat} {acts : List Act15} (hR : ∀ b v, Rd (F b v) a (cellsL act15C acts)) (hi : i < acts.length) (hl : acts.length ≤ 1000000) {x : Act15} (hx : acts.getD i act15Z = x) (ha : Act15Rd F x) {B : BookV} {R : RefV} (eB : BI B) (h : RI R) {ret : SV} {rp : Heap} {J : Act → World → Prop}
    (hJ : ∀ ε a' w, Rel (ntOf Tryz.prog BuiltF) 1 eb R0 ⟨bltSl a acts.length cap (i + 1), bltH F (step15 B x) (stepR R x), 2⟩ ε a' w → J a' w) :
    Go Tryz.prog BuiltF ret rp eb R0 .nrm (rgK Tryz.prog BuiltF 8 [J]) (bltSl a acts.length cap i) (bltH F B R) := by
  have q1 := idx_openG (P := Tryz.prog) (t := AT15) (e := 71) (size := 46) (j := 9) (k := .i64) (cap := cap) (n := acts.length) Tryz.underlying22 (by kernel_rfl) (acts15_len acts) hR hi
  have hpos : 0 < (cellsL act15C acts).length := by rw [acts15_len]; omega
  have q2 := load_openG0 (P := Tryz.prog) (t := 71) (k := i * 46) (j := 9) (u := .agg (act15X (acts.getD i act15Z))) (by kernel_rfl) hR (act15_nth hi) hpos
  have z9 : IntKind.i64.wrap ((i : Int) + 1) = ((i + 1 : Nat) : Int) := by rw [wr_i64 (by omega)]; omega
  rw [hx] at q2
  unfold step15 stepR at hJ
  by_cases g0 : x.d = 0
  · rw [if_pos g0, if_pos g0] at hJ
    have e0 : decide (x.d = 0) = true := decide_eq_true g0
    have i1 : ∀ e : R.issE x.s = 0, R.issue x.s x.A = R.issued x.s x.A := fun e => by unfold RefV.issue; rw [decide_eq_true e]; rfl
    have i2 : ∀ e : R.issE x.s ≠ 0, R.issue x.s x.A = R := fun e => by unfold RefV.issue; rw [decide_eq_false e]; rfl
    have i3 : ∀ e : B.issE x.s = 0, B.issue x.s = B.issued x.s := fun e => by unfold BookV.issue; rw [decide_eq_true e]; rfl
    have i4 : ∀ e : B.issE x.s ≠ 0, B.issue x.s = B := fun e => by unfold BookV.issue; rw [decide_eq_false e]; rfl
    by_cases hm : B.issE x.s = 0 <;> by_cases hn : R.issE x.s = 0
    · have c1 := issue_okC F eB.ex.bk ha.ok ha.hl ha.ht ha.h1 ha.h2 hm
      have c2 := rissue_ok F ha.ok h.hs (by have := h.ho; have := h.hd; omega) ha.hl ha.ht hn
      rw [i3 hm, i1 hn] at hJ
      clear i1 i2 i3 i4
      exact leaf_round (lpK Tryz.prog BuiltF 0 []) false 400 [hG 8 2 q1, hG 8 3 q2, hI 9 1 IntKind.i64 _ _ g0, hC 11 3 c1, hC 12 3 c2, hI 7 1 IntKind.i64 _ _ z9] hJ (by kernel_rfl)
    · have c1 := issue_okC F eB.ex.bk ha.ok ha.hl ha.ht ha.h1 ha.h2 hm
      have c2 := rissue_no F ha.ok h.hs h.hd ha.hl ha.ht hn
      rw [i3 hm, i2 hn] at hJ
      clear i1 i2 i3 i4
      exact leaf_round (lpK Tryz.prog BuiltF 0 []) false 400 [hG 8 2 q1, hG 8 3 q2, hI 9 1 IntKind.i64 _ _ g0, hC 11 3 c1, hC 12 3 c2, hI 7 1 IntKind.i64 _ _ z9] hJ (by kernel_rfl)
    · have c1 := issue_noC F eB.ex.bk ha.ok ha.hl ha.ht ha.h1 ha.h2 hm
      have c2 := rissue_ok F ha.ok h.hs (by have := h.ho; have := h.hd; omega) ha.hl ha.ht hn
      rw [i4 hm, i1 hn] at hJ
      clear i1 i2 i3 i4
      exact leaf_round (lpK Tryz.prog BuiltF 0 []) false 400 [hG 8 2 q1, hG 8 3 q2, hI 9 1 IntKind.i64 _ _ g0, hC 11 3 c1, hC 12 3 c2, hI 7 1 IntKind.i64 _ _ z9] hJ (by kernel_rfl)
    · have c1 := issue_noC F eB.ex.bk ha.ok ha.hl ha.ht ha.h1 ha.h2 hm
      have c2 := rissue_no F ha.ok h.hs h.hd ha.hl ha.ht hn
      rw [i4 hm, i2 hn] at hJ
      clear i1 i2 i3 i4
      exact leaf_round (lpK Tryz.prog BuiltF 0 []) false 400 [hG 8 2 q1, hG 8 3 q2, hI 9 1 IntKind.i64 _ _ g0, hC 11 3 c1, hC 12 3 c2, hI 7 1 IntKind.i64 _ _ z9] hJ (by kernel_rfl)
  have e0 : decide (x.d = 0) = false := decide_eq_false g0
  rw [if_neg g0, if_neg g0] at hJ
  by_cases g2 : x.d = 2
  · rw [if_pos g2, if_pos g2] at hJ
    have e2 : decide (x.d = 2) = true := decide_eq_true g2
    have c1 := setOwn_c B ha.k x.o
    have fin := built_own F (eb := eb) (R0 := R0) (a := a) (n := acts.length) (cap := cap) (i := i) (x := x) (B := B.setO x.k x.o) h (ret := ret) (rp := rp) (J := J) (by omega) hJ
    clear hJ
    exact leaf_cut (rgK Tryz.prog BuiltF 15 [J]) _ _ calNone false 400 [hG 8 2 q1, hG 8 3 q2, hI 9 1 IntKind.i64 _ _ g2, hC 14 5 c1, .stop 15] calNone_ok (by kernel_rfl) fin
  have e2 : decide (x.d = 2) = false := decide_eq_false g2
  rw [if_neg g2, if_neg g2] at hJ
  by_cases g3 : x.d = 3
  · rw [if_pos g3, if_pos g3] at hJ
    have e3 : decide (x.d = 3) = true := decide_eq_true g3
    have c1 := setHeld_c B ha.k x.h
    have c2 := rsetHeld_w (rdX R.docs) R ha.k x.h h.hh
    have ed : (R.setH x.k x.h).docs = R.docs := by
      unfold RefV.setH
      cases R.badK x.k
      · cases decide (0 ≤ rIx R.helds x.k)
        · cases decide ((64 : Int) ≤ (R.helds.length : Int)) <;> rfl
        · rfl
      · rfl
    unfold bltH at hJ
    rw [ed] at hJ
    exact leaf_round (lpK Tryz.prog BuiltF 0 []) false 400 [hG 8 2 q1, hG 8 3 q2, hI 9 1 IntKind.i64 _ _ g3, hC 19 5 c1, hC 20 5 c2, hI 7 1 IntKind.i64 _ _ z9] hJ (by kernel_rfl)
  · rw [if_neg g3, if_neg g3] at hJ
    have e3 : decide (x.d = 3) = false := decide_eq_false g3
    exact leaf_round (lpK Tryz.prog BuiltF 0 []) false 400 [hG 8 2 q1, hG 8 3 q2, hB 10 0 _ _ e0, hB 13 0 _ _ e2, hB 18 0 _ _ e3, hI 7 1 IntKind.i64 _ _ z9] hJ (by kernel_rfl)
theorem runs_ok {self n : Int} (hs : 0 ≤ self ∧ self < n ∧ 2 ≤ n ∧ n ≤ 8) {acts : List Act15} (hA : ∀ x ∈ acts, SaleOk x.s ∧ OwnOk x.o) : ∀ i ≤ acts.length, BI (run15 (bookNew self n) acts i) ∧ RI (runR (refNew self n) acts i)
  | 0, _ => ⟨new_bi self n hs, ⟨by show 0 ≤ self ∧ self ≤ 255; omega, Nat.zero_le _, Nat.zero_le _, Nat.zero_le _⟩⟩
  | i + 1, hi => by
    obtain ⟨h1, h2⟩ := runs_ok hs hA i (by omega)
    have hin : acts.getD i act15Z ∈ acts := List.mem_of_getElem? (getD_some (by omega) act15Z)
    exact ⟨h1.step (hA _ hin).1 (hA _ hin).2, h2.step (hA _ hin).1⟩
theorem built_no {self n : Int} (hs : 0 ≤ self ∧ self ≤ 255) (he : bookE self n ≠ 0) {a : Option Addr} {m cap : Nat} :
    CallOK Tryz.prog BuiltF [.val (.int .u8 self), .val (.int .i64 n), .val (.slice a m cap)] [] [] (.tup [.val (.pointer none), .val (.pointer none)]) [] := by
  have c1 := new_noC hs he
  have c2 := rnew_no (self := self) (n := n) hs (by
    unfold bookE at he
    rcases Bool.eq_false_or_eq_true (decide (n < 2)) with e1 | e1
    · exact .inl (of_decide_eq_true e1)
    rcases Bool.eq_false_or_eq_true (decide (8 < n)) with e2 | e2
    · exact .inr (.inl (of_decide_eq_true e2))
    rcases Bool.eq_false_or_eq_true (decide (n ≤ self)) with e3 | e3
    · exact .inr (.inr (of_decide_eq_true e3))
    · rw [e1, e2, e3] at he; exact absurd rfl he)
  exact callOK_run 400 [hC 1 2 c1, hC 2 2 c2] (by kernel_rfl) (by kernel_rfl)
theorem built_ok (F : CF) {self n : Int} (hs : 0 ≤ self ∧ self ≤ 255) (he : bookE self n = 0) {a : Option Addr} {cap : Nat} {acts : List Act15} (hR : ∀ b v, Rd (F b v) a (cellsL act15C acts)) (hl : acts.length ≤ 1000000) (hA : ∀ x ∈ acts, Act15Rd F x) :
    CallOK Tryz.prog BuiltF [.val (.int .u8 self), .val (.int .i64 n), .val (.slice a acts.length cap)] [((0, 9), .fam F)] [] (.tup [.ptr 1 0 0, .ptr 1 1 0]) [((1, 0), .fam (bookF (run15 (bookNew self n) acts acts.length))), ((1, 1), .fam (refF (rdX (runR (refNew self n) acts acts.length).docs) (runR (refNew self n) acts acts.length)))] := by
  have hk := bookE_ok hs.1 he
  have c1 := new_okC hs he
  have c2 := rnew_c (self := self) (n := n) ⟨hk.1, hk.2.1⟩ hk.2.2.1 hk.2.2.2
  have inv := runs_ok (self := self) (n := n) hk (acts := acts) (fun x hx => ⟨(hA x hx).ok, (hA x hx).o⟩)
  refine callOK_intro (by kernel_rfl) fun eb R0 => ?_
  refine go_loop (X := { i : Nat // i ≤ acts.length }) 0 [] (fun x => (bltSl a acts.length cap x.1, bltH F (run15 (bookNew self n) acts x.1) (runR (refNew self n) acts x.1))) (fun x => acts.length - x.1) ⟨0, Nat.zero_le _⟩ calNone false 400 [hC 1 2 c1, hC 2 2 c2] calNone_ok (by kernel_rfl) ?_
  rintro ⟨i, hi⟩ J hJ
  by_cases h : i < acts.length
  · have z0 : decide ((i : Int) < (acts.length : Int)) = true := decide_eq_true (by omega)
    have hin : acts.getD i act15Z ∈ acts := List.mem_of_getElem? (getD_some h act15Z)
    have fin := built_act F (eb := eb) (R0 := R0) (a := a) (cap := cap) hR h hl rfl (hA _ hin) (inv i hi).1 (inv i hi).2 (ret := .tup [.ptr 1 0 0, .ptr 1 1 0]) (rp := [((0, 9), .fam F)] ++ [((1, 0), .fam (bookF (run15 (bookNew self n) acts acts.length))), ((1, 1), .fam (refF (rdX (runR (refNew self n) acts acts.length).docs) (runR (refNew self n) acts acts.length)))]) (J := J) (hJ ⟨i + 1, h⟩ (by show _ - (i + 1) < _ - i; omega))
    clear hJ
    exact leaf_cut (rgK Tryz.prog BuiltF 8 [J]) _ _ calNone false 400 [hB 6 3 _ _ z0, .stop 8] calNone_ok (by kernel_rfl) fin
  · have z0 : decide ((acts.length : Int) < (acts.length : Int)) = false := decide_eq_false (by omega)
    have e : i = acts.length := by omega
    subst e
    clear hJ
    exact leaf_end calNone false 400 [hB 6 3 _ _ z0] calNone_ok (by kernel_rfl)
end Go.Proofs.YtnkghdakjdhhdaaGreat
end
