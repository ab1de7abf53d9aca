/- BkC4, Sm0, Sm1, Sm2. -/
import Derived.Test.YtmhbpifhpolghaaGreatMeeca872
import Derived.ChangeKeysEq
set_option maxRecDepth 100000
set_option linter.unusedVariables false
set_option linter.unusedSimpArgs false
set_option linter.unusedSectionVars false
section
namespace Go.Proofs.YtmhbpifhpolghaaGreat
open Go.RowKit Go.Lib Go.Tk Go.Shelf Go.Vc Go.Sx Go.Maps
theorem clone_v {f : Nat} {kt : TypeId} {κ α : Type} {K : KeyKind Tryz.prog kt κ} {enc : α → Value} {L : List (κ × α)} (k m : Nat)
    (hf : ∀ (b : Nat) (es : Array MapEntry) (clock : Nat) (w : World), w.heap[b]? = some (.map es clock) → Calls Tryz.prog f #[.map (some b)] w fun e w' => e = .returned (.map (some w.heap.size)) ∧ w' = w.alloc (.map es clock)) :
    CallOK Tryz.prog f [.val (.map (some m))] [((0, k), .fam fun _ _ => mapC K m (ents enc L))] [] (.map 1 0) [((1, 0), .fam (mapT K enc L))] := by
  intro ε R w hM
  have hM : Mem (mapC K m (ents enc L) :: R) w := hM
  obtain ⟨es, clock, hb, h2⟩ := hM.map 0 rfl
  refine (hf m es clock w hb).mono ?_
  rintro e w' ⟨rfl, rfl⟩
  have h1 : Mem (mapC K w.heap.size (ents enc L) :: mapC K m (ents enc L) :: R) (w.alloc (.map es clock)) := hM.fresh (below_alloc _ _) (fun k => k = w.heap.size) ⟨rfl, es, clock, show (w.heap.push _)[w.heap.size]? = _ from Array.getElem?_push_size, h2⟩ (fun k hk => by subst hk; exact ⟨Nat.le_refl _, by simp⟩)
  have h1 := h1.front 1 rfl
  have e1 : ∀ x : Nat → Nat × Value, eset ε 1 x 1 = x := fun x => by simp [eset]
  refine ⟨fun _ => (w.heap.size, undef), by simp only [SV.den]; rw [e1], ?_⟩
  show Mem (mapC K m (ents enc L) :: mapC K (eset ε 1 _ 1 0).1 (ents enc L) :: R) _
  rw [e1]
  exact h1
theorem perm_lift {α β : Type} {f : α → β} : ∀ (r : List β) (l : List α), r.Perm (l.map f) → ∃ l', l'.map f = r ∧ l.Perm l'
  | [], l, h => by
    have : l = [] := List.map_eq_nil_iff.1 (List.nil_perm.1 h)
    subst this
    exact ⟨[], rfl, List.Perm.refl _⟩
  | x :: r, l, h => by
    obtain ⟨p, l', hp, hl, hr⟩ := perm_head' h
    obtain ⟨l2, h2, h3⟩ := perm_lift r l' hr
    exact ⟨p :: l2, by rw [List.map_cons, hp, h2], hl.trans (h3.cons p)⟩
theorem docsX_perm {ds ds' : List DocV} (hp : ds'.Perm ds) {b : Nat} {v : Value} {S : Nat → Prop} {w : World} (h : (docsX ds b v).at_ S w) : (docsX ds' b v).at_ S w := by
  obtain ⟨⟨L, hL⟩, h⟩ := h
  obtain ⟨L', h1, h2⟩ := perm_lift ds' L (by rw [hL]; exact hp)
  refine ⟨⟨L', h1⟩, ⟨h.1.1, h.1.2.perm ?_⟩, ?_⟩
  · unfold ents docKV
    exact (h2.map _).map _
  · obtain ⟨Sd, g1, g2, -⟩ := h.2
    exact ⟨Sd, g1, fun p hp => g2 p (h2.mem_iff.2 hp), fun p hp => by cases hp⟩
def CloneBF : Nat := 9
abbrev DocL (B : BookV) := { L : List (DocV × DocA) // L.map (·.1) = B.docs }
def oldB (B : BookV) (a : BkA) : SC := .box none [.val (.int .u8 B.self), .val (.int .i64 B.n), .val (.map (some a.d)), .val (.map (some a.o)), .val (.map (some a.h))]
def oldH (B : BookV) (a : BkA) : Heap := [((0, 0), oldB B a), ((0, 2), .fam fun _ _ => mapC kidK a.o (ents ownW B.owns)), ((0, 3), .fam fun _ _ => mapC kidK a.h (ents heldW B.helds))]
def newB (B : BookV) : Heap := [((1, 0), .box none [.val (.int .u8 B.self), .val (.int .i64 B.n), .map 1 1, .map 1 2, .map 1 3]), ((1, 2), ownsF B.owns), ((1, 3), heldsF B.helds)]
theorem clone_b (B : BookV) (hk : ∀ d ∈ B.docs, TidOk d.t ∧ DocSmall d) (hn : (B.docs.map (·.t)).Nodup) : CallOK Tryz.prog CloneBF [.ptr 0 0 0] [] (bkC B) (.ptr 1 0 0) (bkC B ++ [((1, 0), .fam (bookF B))]) := by
  refine callOK_intro (by kernel_rfl) fun eb R => ?_
  refine go_open (X := BkA × DocL B) (fun x => oldH B x.1 ++ [((0, 1), .fam fun _ _ => mapC tidK x.1.d (ents docW (docKV x.2.1))), ((0, 5), .fam fun _ _ => rowsC x.2.1)])
    (fun ε w hM => by
      obtain ⟨a, h⟩ := Mem.ex hM
      have h2 := h.all.front 1 rfl
      obtain ⟨L, h3⟩ := Mem.ex h2
      have h4 := docs_split h3
      exact ⟨(a, L), ((h4.front 4 rfl).front 4 rfl).front 4 rfl⟩) (fun x => by kernel_rfl) fun x => ?_
  obtain ⟨a, L, hL⟩ := x
  have c1 := clone_v (K := kidK) (enc := ownW) (L := B.owns) 2 a.o cloneO_any
  have c2 := clone_v (K := kidK) (enc := heldW) (L := B.helds) 3 a.h cloneH_any
  refine leaf_cut (rgK Tryz.prog CloneBF 4 []) [(0, .ptr 0 0 0), (3, .ptr 1 0 0)] (oldH B a ++ [((0, 1), .fam fun _ _ => mapC tidK a.d (ents docW (docKV L))), ((0, 5), .fam fun _ _ => rowsC L)] ++ newB B ++ [((1, 1), .obj [] 0)]) calNone false 400 [hC 3 13 c1, hC 3 18 c2, .stop 4] calNone_ok (by kernel_rfl) ?_
  refine go_open (X := Unit) (fun _ => [((1, 1), .fam (docsX []))] ++ (oldH B a ++ [((0, 1), .fam fun _ _ => mapC tidK a.d (ents docW (docKV L))), ((0, 5), .fam fun _ _ => rowsC L)] ++ newB B)) (fun ε w hM => by
      have h1 : Mem (docsX [] (ε 1 1).1 (ε 1 1).2 :: (hden ε (oldH B a ++ [((0, 1), .fam fun _ _ => mapC tidK a.d (ents docW (docKV L))), ((0, 5), .fam fun _ _ => rowsC L)] ++ newB B) ++ R)) w := (hM.front 8 rfl).weaken (c' := docsX [] (ε 1 1).1 (ε 1 1).2) (fun S hS => obj_docs hS)
      exact ⟨(), h1⟩) (fun x => by kernel_rfl) fun _ => ?_
  have r1 := rangeG (P := Tryz.prog) (K := tidK) (t := DT) (m := a.d) (j := 1) (L := ents docW (docKV L)) Tryz.underlying106
  have d1 := next_doneG (P := Tryz.prog) (K := tidK) (m := a.d) (L := ents docW (docKV L))
  refine go_loop (X := { x : List (Tid × (DocV × DocA)) × List (Tid × (DocV × DocA)) // (docKV L).Perm (x.1 ++ x.2) }) 0 [] (fun x => ([(0, .ptr 0 0 0), (3, .ptr 1 0 0), (33, .ptr 1 9 0)],
      oldH B a ++ [((0, 5), .fam fun _ _ => rowsC L), ((1, 9), .fam fun r _ => rngC tidK r a.d (ents docW (docKV L)) (ents docW x.1.2))] ++ newB B ++ [((1, 1), .fam (docsX (x.1.1.map (·.2.1))))]))
    (fun x => x.1.2.length) ⟨([], docKV L), List.Perm.refl _⟩ calNone false 400 [hG 4 4 r1] calNone_ok (by kernel_rfl) ?_
  rintro ⟨⟨done, left⟩, hd⟩ J hJ
  cases left with
  | cons x l =>
    have m1 := next_moreG (P := Tryz.prog) (K := tidK) (m := a.d) (L := ents docW (docKV L)) (left := ents docW (x :: l)) (by simp [ents])
    refine leaf_cut (rgK Tryz.prog CloneBF 6 [J]) [(0, .ptr 0 0 0), (3, .ptr 1 0 0), (33, .ptr 1 9 0)]
      ([((1, 9), .fam fun r _ => exC fun (y : (Tid × Value) × List (Tid × Value)) => curC tidK r a.d (ents docW (docKV L)) (ents docW (x :: l)) y.1 y.2)] ++ (oldH B a ++ [((0, 5), .fam fun _ _ => rowsC L)] ++ newB B ++ [((1, 1), .fam (docsX (done.map (·.2.1))))]))
      calNone false 400 [hG 5 0 m1, .stop 6] calNone_ok (by kernel_rfl) ?_
    refine go_open (X := { y : (Tid × (DocV × DocA)) × List (Tid × (DocV × DocA)) // (x :: l).Perm (y.1 :: y.2) }) (fun y => [((1, 9), .fam fun r _ => curC tidK r a.d (ents docW (docKV L)) (ents docW (x :: l)) (y.1.1.1, docW y.1.1.2) (ents docW y.1.2))] ++ (oldH B a ++ [((0, 5), .fam fun _ _ => rowsC L)] ++ newB B ++ [((1, 1), .fam (docsX (done.map (·.2.1))))]))
      (fun ε w hM => by obtain ⟨y, h⟩ := cur_typed hM; exact ⟨y, h⟩) (fun y => by kernel_rfl) ?_
    rintro ⟨⟨⟨k, p⟩, l'⟩, hp⟩
    have hd' : (docKV L).Perm ((done ++ [(k, p)]) ++ l') := by
      rw [List.append_assoc]
      exact hd.trans (List.Perm.append_left done hp)
    have hlt : l'.length < (x :: l).length := by have := hp.length_eq; simp only [List.length_cons] at this ⊢; omega
    have hmem : (k, p) ∈ docKV L := hd'.mem_iff.2 (by simp)
    obtain ⟨q, hq, hqe⟩ := List.mem_map.1 hmem
    injection hqe with e1 e2
    subst e2
    subst e1
    have hb : q.1 ∈ B.docs := by rw [← hL]; exact List.mem_map_of_mem hq
    have g1 := entryG (P := Tryz.prog) (K := tidK) (m := a.d) (L := ents docW (docKV L)) (left := ents docW (x :: l)) (left' := ents docW l') (p := (q.1.t, docW q)) (ks := .agg (tidS q.1.t)) (vs := .agg (docSA q.1 q.2)) (fun _ => rfl) (fun _ => rfl)
    have c3 := copied_rows L q hq (hk q.1 hb).2
    have hfresh : ∀ z ∈ done.map (·.2.1), z.t ≠ q.1.t := by
      have hnk : ((docKV L).map (·.1)).Nodup := by rw [docKV_map, hL]; exact hn
      have h5 := (hd'.map (·.1)).nodup_iff.1 hnk
      rw [List.map_append, List.map_append] at h5
      intro z hz
      obtain ⟨y, hy, rfl⟩ := List.mem_map.1 hz
      have hy2 : y ∈ docKV L := hd'.mem_iff.2 (List.mem_append_left _ (List.mem_append_left _ hy))
      obtain ⟨y', -, hye⟩ := List.mem_map.1 hy2
      intro e
      refine (List.nodup_append.1 (List.nodup_append.1 h5).1).2.2 y.1 (List.mem_map_of_mem hy) q.1.t (by simp) ?_
      rw [← hye] at e ⊢
      exact e
    have g2 := upd_docsN (done.map (·.2.1)) q.1 (hk q.1 hb).1 hfresh
    have ee : (done ++ [(q.1.t, q)]).map (·.2.1) = done.map (·.2.1) ++ [q.1] := by rw [List.map_append]; rfl
    rw [← ee] at g2
    exact leaf_round (lpK Tryz.prog CloneBF 0 []) false 400 [hG 6 0 g1, hC 7 6 c3, hG 7 7 g2] (hJ ⟨(done ++ [(q.1.t, q)], l'), hd'⟩ hlt) (by kernel_rfl)
  | nil =>
    rw [List.append_nil] at hd
    have hds : B.docs.Perm (done.map (·.2.1)) := by
      have := hd.map (·.2.1)
      unfold docKV at this
      rw [List.map_map] at this
      rw [← hL]
      exact this
    refine leaf_cut (rgK Tryz.prog CloneBF 8 []) [(3, .ptr 1 0 0)]
      (oldH B a ++ [((0, 5), .fam fun _ _ => rowsC L), ((1, 9), .fam fun r _ => rngC tidK r a.d (ents docW (docKV L)) [])] ++ newB B ++ [((1, 1), .fam (docsX (done.map (·.2.1))))])
      calNone false 400 [hG 5 0 d1, .stop 8] calNone_ok (by kernel_rfl) ?_
    refine go_open (X := Unit) (fun _ => [((0, 0), .fam (bookF B)), ((1, 0), .fam (bookF B))]) (fun ε w hM => ⟨(), by
      have hM : Mem (boxE none (ε 0 0).1 #[.int .u8 B.self, .int .i64 B.n, .map (some a.d), .map (some a.o), .map (some a.h)] :: mapC kidK a.o (ents ownW B.owns) :: mapC kidK a.h (ents heldW B.helds) :: rowsC L :: rngC tidK (ε 1 9).1 a.d (ents docW (docKV L)) [] :: boxE none (ε 1 0).1 #[.int .u8 B.self, .int .i64 B.n, .map (some (ε 1 1).1), .map (some (ε 1 2).1), .map (some (ε 1 3).1)] :: mapT kidK ownW B.owns (ε 1 2).1 (ε 1 2).2 :: mapT kidK heldW B.helds (ε 1 3).1 (ε 1 3).2 :: docsX (done.map (·.2.1)) (ε 1 1).1 (ε 1 1).2 :: R) w := hM
      have h1 := (hM.front 8 rfl).weaken (c' := docsX B.docs (ε 1 1).1 undef) fun S hS => docsX_perm hds hS
      have h2 := (h1.front 5 rfl).weaken (c' := mapC tidK a.d (ents docW (docKV L))) fun S hS => ⟨hS.2.1, hS.2.2.map⟩
      have h3 := docs_shut (v := undef) ((h2.front 5 rfl).front 1 rfl)
      have h4 : Mem (docsX B.docs a.d undef :: _) w := Mem.in_ex ⟨L, hL⟩ h3
      have h5 := (((h4.front 7 rfl).front 7 rfl).front 3 rfl).front 7 rfl
      have h6 := Mem.in_ex (f := fun y : BkA => allC [boxE none (ε 1 0).1 #[.int .u8 B.self, .int .i64 B.n, .map (some y.d), .map (some y.o), .map (some y.h)], docsX B.docs y.d undef, mapT kidK ownW B.owns y.o undef, mapT kidK heldW B.helds y.h undef]) ⟨(ε 1 1).1, (ε 1 2).1, (ε 1 3).1⟩ (Mem.in_all (l := [_, _, _, _]) h5)
      have h7 := (((h6.front 4 rfl).front 4 rfl).front 3 rfl).front 4 rfl
      exact Mem.in_ex (f := fun y : BkA => allC [boxE none (ε 0 0).1 #[.int .u8 B.self, .int .i64 B.n, .map (some y.d), .map (some y.o), .map (some y.h)], docsX B.docs y.d undef, mapT kidK ownW B.owns y.o undef, mapT kidK heldW B.helds y.h undef]) a (Mem.in_all (l := [_, _, _, _]) h7)⟩) (fun _ => by kernel_rfl) fun _ => ?_
    exact leaf_end calNone false 400 [] calNone_ok (by kernel_rfl)
theorem len_val {kt : TypeId} {κ : Type} {K : KeyKind Tryz.prog kt κ} {m j n : Nat} {L : List (κ × Value)} (hn : L.length = n) :
    OpG Tryz.prog (isLenM Tryz.prog) lenX [.val (.map (some m))] [((0, j), .fam fun _ _ => mapC K m L)] [] (.val (.int .i64 (n : Int))) [] := by
  intro o ho
  unfold isLenM at ho
  split at ho <;> try (cases ho; done)
  rename_i c hop
  split at ho <;> try (cases ho; done)
  rename_i hc
  split at ho <;> try (cases ho; done)
  rename_i x t' ha ht
  split at ho <;> try (cases ho; done)
  rename_i k' e' hT
  have hx' : lenX o = [x] := by unfold lenX; rw [hop]; exact ha
  rw [hx']
  refine ⟨fun q hq => by rw [hop]; simp [Op.operands, Call.operands, hc]; have := arr_one ha; rw [this]; simpa using hq, fun ε ρ R w hx hM => ?_⟩
  simp only [List.map_cons, List.map_nil, SV.dens, SV.den, List.cons.injEq, and_true] at hx
  have hM : Mem (mapC K m L :: R) w := hM
  obtain ⟨es, clock, hb, hp, -⟩ := hM.of 0 rfl (φ := MapAt K w m L) (fun S hS => hS.2)
  have hlen : es.size = n := by have := hp.length_eq; simp at this; omega
  have := x_lenM (P := Tryz.prog) (ρ := ρ) (o := o) (w := w) hop hc (arr_one ha) ht hx hT hb
  rw [hlen] at this
  exact res_ok this ⟨fun _ => (0, undef), by simp only [SV.den], hM⟩
def sameM {κ α : Type} [DecidableEq κ] [DecidableEq α] (L M : List (κ × α)) : Bool := decide (L.length = M.length) && L.all fun p => decide (lkt M p.1 = some p.2)
theorem sameM_self {κ α : Type} [DecidableEq κ] [DecidableEq α] {L : List (κ × α)} (h : (L.map (·.1)).Nodup) : sameM L L = true := by
  unfold sameM
  rw [decide_eq_true rfl, Bool.true_and, List.all_eq_true]
  exact fun p hp => decide_eq_true (lkt_of h hp)
theorem sameM_len {κ α : Type} [DecidableEq κ] [DecidableEq α] {L M : List (κ × α)} (h : L.length ≠ M.length) : sameM L M = false := by
  unfold sameM; rw [decide_eq_false h]; rfl
theorem sameM_bad {κ α : Type} [DecidableEq κ] [DecidableEq α] {L M : List (κ × α)} {p : κ × α} (hp : p ∈ L) (h : lkt M p.1 ≠ some p.2) : sameM L M = false := by
  unfold sameM
  rw [Bool.and_eq_false_iff]
  refine .inr ?_
  rw [Bool.eq_false_iff]
  intro e
  exact h (of_decide_eq_true (List.all_eq_true.1 e p hp))
theorem sameM_mk {κ α : Type} [DecidableEq κ] [DecidableEq α] {L M : List (κ × α)} (hl : L.length = M.length) (h : ∀ p ∈ L, lkt M p.1 = some p.2) : sameM L M = true := by
  unfold sameM
  rw [decide_eq_true hl, Bool.true_and, List.all_eq_true]
  exact fun p hp => decide_eq_true (h p hp)
def legEq (a b : Leg) : Bool := decide (a.c = b.c) && (decide (a.f = b.f) && (decide (a.x = b.x) && true))
def cpnEq (a b : Cpn) : Bool := legEq a.l b.l && (decide (a.v = b.v) && (decide (a.s = b.s) && (decide (a.n = b.n) && true)))
def ownEq (a b : OwnV) : Bool := cpnEq a.k b.k && ((a.away == b.away) && (decide (a.dst = b.dst) && ((a.paid == b.paid) && ((a.asked == b.asked) && true))))
def heldEq (a b : HeldV) : Bool := cpnEq a.k b.k && ((a.here == b.here) && ((a.paid == b.paid) && ((a.wanted == b.wanted) && ((a.billed == b.billed) && true))))
theorem cpnEq_iff (a b : Cpn) : cpnEq a b = true ↔ a = b := by
  obtain ⟨⟨a1, a2, a3⟩, a4, a5, a6⟩ := a
  obtain ⟨⟨b1, b2, b3⟩, b4, b5, b6⟩ := b
  simp [cpnEq, legEq, and_assoc]
theorem ownEq_iff (a b : OwnV) : ownEq a b = true ↔ a = b := by
  obtain ⟨a1, a2, a3, a4, a5⟩ := a
  obtain ⟨b1, b2, b3, b4, b5⟩ := b
  unfold ownEq
  rw [Bool.and_eq_true, cpnEq_iff]
  simp
theorem heldEq_iff (a b : HeldV) : heldEq a b = true ↔ a = b := by
  obtain ⟨a1, a2, a3, a4, a5⟩ := a
  obtain ⟨b1, b2, b3, b4, b5⟩ := b
  unfold heldEq
  rw [Bool.and_eq_true, cpnEq_iff]
  simp
theorem ownEq_no {a b : OwnV} (h : a ≠ b) : ownEq a b = false := by
  cases e : ownEq a b with
  | false => rfl
  | true => exact absurd ((ownEq_iff a b).1 e) h
theorem heldEq_no {a b : HeldV} (h : a ≠ b) : heldEq a b = false := by
  cases e : heldEq a b with
  | false => rfl
  | true => exact absurd ((heldEq_iff a b).1 e) h
theorem map_facts {kt : TypeId} {κ α : Type} {K : KeyKind Tryz.prog kt κ} {enc : α → Value} {L : List (κ × α)} {m : Nat} {R : List Chunk} {w : World} (h : Mem (mapC K m (ents enc L) :: R) w) : (L.map (·.1)).Nodup ∧ ∀ p ∈ L, K.ok p.1 := by
  obtain ⟨es, clock, hb, hp, hn, hk, -⟩ := h.of 0 rfl (φ := MapAt K w m (ents enc L)) (fun S hS => hS.2)
  refine ⟨by unfold ents at hn; rwa [List.map_map] at hn, fun p hp' => ?_⟩
  exact hk (p.1, enc p.2) (List.mem_map_of_mem (f := fun p : κ × α => (p.1, enc p.2)) hp')
def EqO : Nat := 62
theorem eqO_w (m : Nat) (L M : OwnsV) : CallOK Tryz.prog EqO [.val (.map (some m)), .map 0 7] [((0, 7), ownsF M)] [((0, 5), .fam fun _ _ => mapC kidK m (ents ownW L))] (.val (.bool (sameM L M))) [((0, 5), .fam fun _ _ => mapC kidK m (ents ownW L))] := by
  have l1 := len_val (K := kidK) (m := m) (j := 5) (n := L.length) (L := ents ownW L) (by simp [ents])
  have l2 := len_map (P := Tryz.prog) (K := kidK) (enc := ownW) M
  by_cases hl : L.length = M.length
  case neg =>
    rw [sameM_len hl]
    have q0 : (!decide ((L.length : Int) = (M.length : Int))) = true := by simp; omega
    exact callOK_run 400 [hG 1 1 l1, hG 1 3 l2, hB 1 4 _ _ q0] (by kernel_rfl) (by kernel_rfl)
  have q0 : (!decide ((L.length : Int) = (M.length : Int))) = false := by simp; omega
  refine callOK_intro (by kernel_rfl) fun eb R => ?_
  refine go_open (X := { u : Unit // (L.map (·.1)).Nodup ∧ ∀ p ∈ L, KidOk p.1 }) (fun _ => [((0, 5), .fam fun _ _ => mapC kidK m (ents ownW L)), ((0, 7), ownsF M)])
    (fun ε w hM => by
      have hM : Mem (mapT kidK ownW M (ε 0 7).1 (ε 0 7).2 :: mapC kidK m (ents ownW L) :: R) w := hM
      have h1 := hM.front 1 rfl
      exact ⟨⟨(), map_facts h1⟩, h1⟩) (fun _ => by kernel_rfl) ?_
  rintro ⟨-, hn, hok⟩
  have r1 := rangeG (P := Tryz.prog) (K := kidK) (t := OT) (m := m) (j := 5) (L := ents ownW L) Tryz.underlying107
  have d1 := next_doneG (P := Tryz.prog) (K := kidK) (m := m) (L := ents ownW L)
  refine go_loop (X := { x : OwnsV × OwnsV // L.Perm (x.1 ++ x.2) ∧ ∀ p ∈ x.1, lkt M p.1 = some p.2 }) 0 [] (fun x => ([(1, .map 0 7), (15, .ptr 1 9 0)],
      [((0, 7), ownsF M), ((1, 9), .fam fun r _ => rngC kidK r m (ents ownW L) (ents ownW x.1.2))]))
    (fun x => x.1.2.length) ⟨([], L), List.Perm.refl _, fun p hp => by cases hp⟩ calNone false 400 [hG 1 1 l1, hG 1 3 l2, hB 1 4 _ _ q0, hG 3 1 r1] calNone_ok (by kernel_rfl) ?_
  rintro ⟨⟨done, left⟩, hd, hdone⟩ J hJ
  have back : ∀ {left : OwnsV} (b : Bool), Go Tryz.prog EqO (.val (.bool b)) ([((0, 7), ownsF M)] ++ [((0, 5), .fam fun _ _ => mapC kidK m (ents ownW L))]) eb R .nrm (rgK Tryz.prog EqO (bif b then 9 else 8) [J]) [] [((0, 7), ownsF M), ((1, 9), .fam fun r _ => rngC kidK r m (ents ownW L) (ents ownW left))] := fun {left} b => by
    refine go_open (X := Unit) (fun _ => [((0, 7), ownsF M), ((0, 5), .fam fun _ _ => mapC kidK m (ents ownW L))]) (fun ε w hM => ⟨(), by
      have hM : Mem (mapT kidK ownW M (ε 0 7).1 (ε 0 7).2 :: rngC kidK (ε 1 9).1 m (ents ownW L) (ents ownW left) :: R) w := hM
      exact ((hM.front 1 rfl).weaken (c' := mapC kidK m (ents ownW L)) fun S hS => ⟨hS.2.1, hS.2.2.map⟩).front 1 rfl⟩) (fun _ => by kernel_rfl) fun _ => ?_
    cases b
    · exact leaf_end calNone false 400 [] calNone_ok (by kernel_rfl)
    · exact leaf_end calNone false 400 [] calNone_ok (by kernel_rfl)
  cases left with
  | cons x l =>
    have m1 := next_moreG (P := Tryz.prog) (K := kidK) (m := m) (L := ents ownW L) (left := ents ownW (x :: l)) (by simp [ents])
    refine leaf_cut (rgK Tryz.prog EqO 5 [J]) [(1, .map 0 7), (15, .ptr 1 9 0)]
      [((1, 9), .fam fun r _ => exC fun (y : (Kid × Value) × List (Kid × Value)) => curC kidK r m (ents ownW L) (ents ownW (x :: l)) y.1 y.2), ((0, 7), ownsF M)]
      calNone false 400 [hG 4 0 m1, .stop 5] calNone_ok (by kernel_rfl) ?_
    refine go_open (X := { y : (Kid × OwnV) × OwnsV // (x :: l).Perm (y.1 :: y.2) }) (fun y => [((1, 9), .fam fun r _ => curC kidK r m (ents ownW L) (ents ownW (x :: l)) (y.1.1.1, ownW y.1.1.2) (ents ownW y.1.2)), ((0, 7), ownsF M)])
      (fun ε w hM => cur_typed hM) (fun y => by kernel_rfl) ?_
    rintro ⟨⟨⟨k, o⟩, l'⟩, hp⟩
    have g1 := entryG (P := Tryz.prog) (K := kidK) (m := m) (L := ents ownW L) (left := ents ownW (x :: l)) (left' := ents ownW l') (p := (k, ownW o)) (ks := .agg (kidS k)) (vs := .agg (ownS o)) (fun _ => rfl) (fun _ => rfl)
    have hd' : L.Perm ((done ++ [(k, o)]) ++ l') := by
      rw [List.append_assoc]
      exact hd.trans (List.Perm.append_left done hp)
    have hlt : l'.length < (x :: l).length := by have := hp.length_eq; simp only [List.length_cons] at this ⊢; omega
    have hmem : (k, o) ∈ L := hd'.mem_iff.2 (by simp)
    have c1 := look_owns M (hok _ hmem)
    cases hk : lkt M k with
    | none =>
      rw [hk] at c1
      rw [sameM_bad hmem (by rw [hk]; simp)]
      exact leaf_cut (rgK Tryz.prog EqO 8 [J]) _ _ calNone false 400 [hG 5 0 g1, hG 6 2 c1, .stop 8] calNone_ok (by kernel_rfl) (back (left := l') false)
    | some o' =>
      rw [hk] at c1
      by_cases he : o = o'
      · subst he
        have e1 : (!ownEq o o) = false := by rw [(ownEq_iff o o).2 rfl]; rfl
        unfold ownEq cpnEq legEq at e1
        exact leaf_round (lpK Tryz.prog EqO 0 []) false 400 [hG 5 0 g1, hG 6 2 c1, hB 7 5 _ _ e1] (hJ ⟨(done ++ [(k, o)], l'), hd', fun p hp => by
          rcases List.mem_append.1 hp with hp | hp
          · exact hdone p hp
          · rw [List.mem_singleton.1 hp]; exact hk⟩ hlt) (by kernel_rfl)
      · rw [sameM_bad hmem (by rw [hk]; intro e; cases e; exact he rfl)]
        have e1 : (!ownEq o o') = true := by rw [ownEq_no he]; rfl
        unfold ownEq cpnEq legEq at e1
        exact leaf_cut (rgK Tryz.prog EqO 8 [J]) _ _ calNone false 400 [hG 5 0 g1, hG 6 2 c1, hB 7 5 _ _ e1, .stop 8] calNone_ok (by kernel_rfl) (back (left := l') false)
  | nil =>
    rw [List.append_nil] at hd
    rw [sameM_mk hl fun p hp => hdone p (hd.mem_iff.1 hp)]
    exact leaf_cut (rgK Tryz.prog EqO 9 []) _ _ calNone false 400 [hG 4 0 d1, .stop 9] calNone_ok (by kernel_rfl) (back (left := []) true)
def EqH : Nat := 63
theorem eqH_w (m : Nat) (L M : HeldsV) : CallOK Tryz.prog EqH [.val (.map (some m)), .map 0 7] [((0, 7), heldsF M)] [((0, 6), .fam fun _ _ => mapC kidK m (ents heldW L))] (.val (.bool (sameM L M))) [((0, 6), .fam fun _ _ => mapC kidK m (ents heldW L))] := by
  have l1 := len_val (K := kidK) (m := m) (j := 6) (n := L.length) (L := ents heldW L) (by simp [ents])
  have l2 := len_map (P := Tryz.prog) (K := kidK) (enc := heldW) M
  by_cases hl : L.length = M.length
  case neg =>
    rw [sameM_len hl]
    have q0 : (!decide ((L.length : Int) = (M.length : Int))) = true := by simp; omega
    exact callOK_run 400 [hG 1 1 l1, hG 1 3 l2, hB 1 4 _ _ q0] (by kernel_rfl) (by kernel_rfl)
  have q0 : (!decide ((L.length : Int) = (M.length : Int))) = false := by simp; omega
  refine callOK_intro (by kernel_rfl) fun eb R => ?_
  refine go_open (X := { u : Unit // (L.map (·.1)).Nodup ∧ ∀ p ∈ L, KidOk p.1 }) (fun _ => [((0, 6), .fam fun _ _ => mapC kidK m (ents heldW L)), ((0, 7), heldsF M)])
    (fun ε w hM => by
      have hM : Mem (mapT kidK heldW M (ε 0 7).1 (ε 0 7).2 :: mapC kidK m (ents heldW L) :: R) w := hM
      have h1 := hM.front 1 rfl
      exact ⟨⟨(), map_facts h1⟩, h1⟩) (fun _ => by kernel_rfl) ?_
  rintro ⟨-, hn, hok⟩
  have r1 := rangeG (P := Tryz.prog) (K := kidK) (t := HT) (m := m) (j := 6) (L := ents heldW L) Tryz.underlying108
  have d1 := next_doneG (P := Tryz.prog) (K := kidK) (m := m) (L := ents heldW L)
  refine go_loop (X := { x : HeldsV × HeldsV // L.Perm (x.1 ++ x.2) ∧ ∀ p ∈ x.1, lkt M p.1 = some p.2 }) 0 [] (fun x => ([(1, .map 0 7), (15, .ptr 1 9 0)],
      [((0, 7), heldsF M), ((1, 9), .fam fun r _ => rngC kidK r m (ents heldW L) (ents heldW x.1.2))]))
    (fun x => x.1.2.length) ⟨([], L), List.Perm.refl _, fun p hp => by cases hp⟩ calNone false 400 [hG 1 1 l1, hG 1 3 l2, hB 1 4 _ _ q0, hG 3 1 r1] calNone_ok (by kernel_rfl) ?_
  rintro ⟨⟨done, left⟩, hd, hdone⟩ J hJ
  have back : ∀ {left : HeldsV} (b : Bool), Go Tryz.prog EqH (.val (.bool b)) ([((0, 7), heldsF M)] ++ [((0, 6), .fam fun _ _ => mapC kidK m (ents heldW L))]) eb R .nrm (rgK Tryz.prog EqH (bif b then 9 else 8) [J]) [] [((0, 7), heldsF M), ((1, 9), .fam fun r _ => rngC kidK r m (ents heldW L) (ents heldW left))] := fun {left} b => by
    refine go_open (X := Unit) (fun _ => [((0, 7), heldsF M), ((0, 6), .fam fun _ _ => mapC kidK m (ents heldW L))]) (fun ε w hM => ⟨(), by
      have hM : Mem (mapT kidK heldW M (ε 0 7).1 (ε 0 7).2 :: rngC kidK (ε 1 9).1 m (ents heldW L) (ents heldW left) :: R) w := hM
      exact ((hM.front 1 rfl).weaken (c' := mapC kidK m (ents heldW L)) fun S hS => ⟨hS.2.1, hS.2.2.map⟩).front 1 rfl⟩) (fun _ => by kernel_rfl) fun _ => ?_
    cases b
    · exact leaf_end calNone false 400 [] calNone_ok (by kernel_rfl)
    · exact leaf_end calNone false 400 [] calNone_ok (by kernel_rfl)
  cases left with
  | cons x l =>
    have m1 := next_moreG (P := Tryz.prog) (K := kidK) (m := m) (L := ents heldW L) (left := ents heldW (x :: l)) (by simp [ents])
    refine leaf_cut (rgK Tryz.prog EqH 5 [J]) [(1, .map 0 7), (15, .ptr 1 9 0)]
      [((1, 9), .fam fun r _ => exC fun (y : (Kid × Value) × List (Kid × Value)) => curC kidK r m (ents heldW L) (ents heldW (x :: l)) y.1 y.2), ((0, 7), heldsF M)]
      calNone false 400 [hG 4 0 m1, .stop 5] calNone_ok (by kernel_rfl) ?_
    refine go_open (X := { y : (Kid × HeldV) × HeldsV // (x :: l).Perm (y.1 :: y.2) }) (fun y => [((1, 9), .fam fun r _ => curC kidK r m (ents heldW L) (ents heldW (x :: l)) (y.1.1.1, heldW y.1.1.2) (ents heldW y.1.2)), ((0, 7), heldsF M)])
      (fun ε w hM => cur_typed hM) (fun y => by kernel_rfl) ?_
    rintro ⟨⟨⟨k, o⟩, l'⟩, hp⟩
    have g1 := entryG (P := Tryz.prog) (K := kidK) (m := m) (L := ents heldW L) (left := ents heldW (x :: l)) (left' := ents heldW l') (p := (k, heldW o)) (ks := .agg (kidS k)) (vs := .agg (heldS o)) (fun _ => rfl) (fun _ => rfl)
    have hd' : L.Perm ((done ++ [(k, o)]) ++ l') := by
      rw [List.append_assoc]
      exact hd.trans (List.Perm.append_left done hp)
    have hlt : l'.length < (x :: l).length := by have := hp.length_eq; simp only [List.length_cons] at this ⊢; omega
    have hmem : (k, o) ∈ L := hd'.mem_iff.2 (by simp)
    have c1 := look_helds M (hok _ hmem)
    cases hk : lkt M k with
    | none =>
      rw [hk] at c1
      rw [sameM_bad hmem (by rw [hk]; simp)]
      exact leaf_cut (rgK Tryz.prog EqH 8 [J]) _ _ calNone false 400 [hG 5 0 g1, hG 6 2 c1, .stop 8] calNone_ok (by kernel_rfl) (back (left := l') false)
    | some o' =>
      rw [hk] at c1
      by_cases he : o = o'
      · subst he
        have e1 : (!heldEq o o) = false := by rw [(heldEq_iff o o).2 rfl]; rfl
        unfold heldEq cpnEq legEq at e1
        exact leaf_round (lpK Tryz.prog EqH 0 []) false 400 [hG 5 0 g1, hG 6 2 c1, hB 7 5 _ _ e1] (hJ ⟨(done ++ [(k, o)], l'), hd', fun p hp => by
          rcases List.mem_append.1 hp with hp | hp
          · exact hdone p hp
          · rw [List.mem_singleton.1 hp]; exact hk⟩ hlt) (by kernel_rfl)
      · rw [sameM_bad hmem (by rw [hk]; intro e; cases e; exact he rfl)]
        have e1 : (!heldEq o o') = true := by rw [heldEq_no he]; rfl
        unfold heldEq cpnEq legEq at e1
        exact leaf_cut (rgK Tryz.prog EqH 8 [J]) _ _ calNone false 400 [hG 5 0 g1, hG 6 2 c1, hB 7 5 _ _ e1, .stop 8] calNone_ok (by kernel_rfl) (back (left := l') false)
  | nil =>
    rw [List.append_nil] at hd
    rw [sameM_mk hl fun p hp => hdone p (hd.mem_iff.1 hp)]
    exact leaf_cut (rgK Tryz.prog EqH 9 []) _ _ calNone false 400 [hG 4 0 d1, .stop 9] calNone_ok (by kernel_rfl) (back (left := []) true)
def TSameF : Nat := 95
theorem tsame_w (F1 F2 : CF) {s o : SaleV} {A B : SaleA} (h1 : ∀ b v, Rd (F1 b v) A.la (cellsL encLeg s.legs)) (h2 : ∀ b v, Rd (F1 b v) A.ta (cellsL encTax s.taxes)) (h3 : ∀ b v, Rd (F2 b v) B.la (cellsL encLeg o.legs)) (h4 : ∀ b v, Rd (F2 b v) B.ta (cellsL encTax o.taxes))
    (n1 : A.la = none → A.lc = 0) (n2 : A.ta = none → A.tc = 0) (n3 : B.la = none → B.lc = 0) (n4 : B.ta = none → B.tc = 0) (ok1 : SaleOk s) (ok2 : SaleOk o) :
    CallOK Tryz.prog TSameF [.agg (salS s (.val (.slice A.la s.legs.length A.lc)) (.val (.slice A.ta s.taxes.length A.tc))), .agg (salS o (.val (.slice B.la o.legs.length B.lc)) (.val (.slice B.ta o.taxes.length B.tc)))] [((0, 11), .fam F1), ((0, 7), .fam F2)] [] (.val (.bool (decide (s = o)))) [] := by
  intro ε R w hM
  have hM : Mem (F1 (ε 0 11).1 (ε 0 11).2 :: F2 (ε 0 7).1 (ε 0 7).2 :: R) w := hM
  have hs : SaleAt w s A := ⟨(h1 _ _).row hM 0 rfl, (h2 _ _).row hM 0 rfl, n1, n2⟩
  have ho : SaleAt w o B := ⟨(h3 _ _).row hM 1 rfl, (h4 _ _).row hM 1 rfl, n3, n4⟩
  refine (same_any s o A B w hs ho ok1.nl ok2.nl ok1.nt ok2.nt).mono ?_
  rintro e w' ⟨rfl, hb⟩
  exact ⟨ε 1, rfl, by rw [eset_self]; exact hM.kept hb⟩
def EqIF : Nat := 96
theorem i64_nth {l : List Int} {i : Nat} (h : i < l.length) : ∀ (ε : Env) (q : Nat) (v : SV), ([.val (.int .i64 (l.getD i 0))] : List SV)[q]? = some v → (l.map (Value.int .i64))[i * 1 + q]? = some (v.den ε) := by
  intro ε q v hv
  cases q with
  | zero =>
    cases hv
    rw [Nat.mul_one, Nat.add_zero, List.getElem?_map, getD_some h 0]; rfl
  | succ q => cases hv
theorem eqI_w (F1 F2 : CF) {a1 a2 : Option Addr} {c1 c2 : Nat} {xs ys : List Int} (h1 : ∀ b v, Rd (F1 b v) a1 (xs.map (.int .i64))) (h2 : ∀ b v, Rd (F2 b v) a2 (ys.map (.int .i64))) (hl : xs.length ≤ 1073741824) :
    CallOK Tryz.prog EqIF [.val (.slice a1 xs.length c1), .val (.slice a2 ys.length c2)] [((0, 11), .fam F1), ((0, 7), .fam F2)] [] (.val (.bool (decide (xs = ys)))) [] := by
  by_cases hn : xs.length = ys.length
  case neg =>
    have q0 : (!decide ((xs.length : Int) = (ys.length : Int))) = true := by simp; omega
    rw [decide_eq_false (show ¬ xs = ys from fun e => hn (by rw [e]))]
    exact callOK_run 400 [hB 1 4 _ _ q0] (by kernel_rfl) (by kernel_rfl)
  have q0 : (!decide ((xs.length : Int) = (ys.length : Int))) = false := by simp; omega
  refine callOK_intro (by kernel_rfl) fun eb R => ?_
  refine go_loop (X := { i : Nat // i ≤ xs.length ∧ ∀ j, j < i → xs.getD j 0 = ys.getD j 0 }) 0 [] (fun x => ([(0, .val (.slice a1 xs.length c1)), (1, .val (.slice a2 ys.length c2)), (12, .val (.int .i64 (xs.length : Int))), (13, .val (.int .i64 (x.1 : Int)))], [((0, 11), .fam F1), ((0, 7), .fam F2)])) (fun x => xs.length - x.1) ⟨0, Nat.zero_le _, fun j hj => absurd hj (Nat.not_lt_zero _)⟩ calNone false 400 [hB 1 4 _ _ q0] calNone_ok (by kernel_rfl) ?_
  rintro ⟨i, hi, hd⟩ J hJ
  by_cases h : i < xs.length
  · have z0 : decide ((i : Int) < (xs.length : Int)) = true := decide_eq_true (by omega)
    have h' : i < ys.length := by omega
    have q1 := idx_openG (P := Tryz.prog) (t := 40) (e := 2) (size := 1) (j := 11) (k := .i64) (cap := c1) (n := xs.length) Tryz.underlying40 (by kernel_rfl) (by rw [List.length_map, Nat.mul_one]) h1 h
    have q2 := load_openG0 (P := Tryz.prog) (t := 2) (k := i * 1) (j := 11) (cs := [.val (.int .i64 (xs.getD i 0))]) (u := .val (.int .i64 (xs.getD i 0))) (by kernel_rfl) h1 (i64_nth h) (by rw [List.length_map]; omega)
    have q3 := idx_openG (P := Tryz.prog) (t := 40) (e := 2) (size := 1) (j := 7) (k := .i64) (cap := c2) (n := ys.length) Tryz.underlying40 (by kernel_rfl) (by rw [List.length_map, Nat.mul_one]) h2 h'
    have q4 := load_openG0 (P := Tryz.prog) (t := 2) (k := i * 1) (j := 7) (cs := [.val (.int .i64 (ys.getD i 0))]) (u := .val (.int .i64 (ys.getD i 0))) (by kernel_rfl) h2 (i64_nth h') (by rw [List.length_map]; omega)
    have q5 : IntKind.i64.wrap ((i : Int) + 1) = ((i + 1 : Nat) : Int) := by rw [wr_i64 (by omega)]; omega
    by_cases e : xs.getD i 0 = ys.getD i 0
    · have q6 : (!decide (xs.getD i 0 = ys.getD i 0)) = false := by rw [decide_eq_true e]; rfl
      have he := hid e
      clear e
      have hJ' := hJ ⟨i + 1, h, fun j hj => by
        by_cases q : j = i
        · subst q; exact he.out
        · exact hd j (by omega)⟩ (by show _ - (i + 1) < _ - i; omega)
      exact leaf_round (lpK Tryz.prog EqIF 0 []) false 400 [hB 4 0 _ _ z0, hG 6 2 q1, hG 6 3 q2, hG 6 6 q3, hG 6 7 q4, hB 6 8 _ _ q6, hI 8 0 IntKind.i64 _ _ q5] hJ' (by kernel_rfl)
    · have q6 : (!decide (xs.getD i 0 = ys.getD i 0)) = true := by rw [decide_eq_false e]; rfl
      rw [decide_eq_false (show ¬ xs = ys from fun e' => e (by rw [e']))]
      exact leaf_end calNone false 400 [hB 4 0 _ _ z0, hG 6 2 q1, hG 6 3 q2, hG 6 6 q3, hG 6 7 q4, hB 6 8 _ _ q6] calNone_ok (by kernel_rfl)
  · have z0 : decide ((i : Int) < (xs.length : Int)) = false := decide_eq_false (by omega)
    rw [decide_eq_true (show xs = ys from by
      refine List.ext_getElem hn fun j h3 h4 => ?_
      have := hd j (by omega)
      rw [List.getD_eq_getElem?_getD, List.getD_eq_getElem?_getD, List.getElem?_eq_getElem h3, List.getElem?_eq_getElem h4] at this
      exact this)]
    exact leaf_end calNone false 400 [hB 4 0 _ _ z0] calNone_ok (by kernel_rfl)
def isEqA (t : Nat) (o : Oper) : Bool := match o.op with
  | .binOp .eql t' _ _ _ => Nat.beq t' t
  | _ => false
def eqXY (o : Oper) : List Operand := match o.op with
  | .binOp .eql _ x y _ => [x, y]
  | _ => []
theorem run_items {P : Program} {w : World} {e : TypeId} {k : IntKind} (d : Nat) (he : P.underlying e = some (.int k)) (hp : P.plainKey e = true) (xs ys : List Int) : ∀ is : List Nat, (∀ i ∈ is, i < xs.length ∧ i < ys.length) →
    (Op.eqItems (d + 1) e 1 (xs.map (.int k)).toArray (ys.map (.int k)).toArray is).run P w = .ok (is.all fun i => xs.getD i 0 == ys.getD i 0) w
  | [], _ => by simp [Op.eqItems]
  | i :: is, h => by
    have ih := run_items (w := w) d he hp xs ys is fun j hj => h j (List.mem_cons_of_mem _ hj)
    obtain ⟨h1, h2⟩ := h i List.mem_cons_self
    have p1 : (part e (xs.map (Value.int k)).toArray (i * 1)).run P w = .ok (.int k (xs.getD i 0)) w := run_part_plain w hp (by rw [Nat.mul_one]; simp [h1])
    have p2 : (part e (ys.map (Value.int k)).toArray (i * 1)).run P w = .ok (.int k (ys.getD i 0)) w := run_part_plain w hp (by rw [Nat.mul_one]; simp [h2])
    have p3 := run_equalIn_int (P := P) w d e k k (xs.getD i 0) (ys.getD i 0) he
    simp only [Op.eqItems, Sem.run_bind, p1, p2, p3, Result.andThen_ok, List.all_cons]
    cases xs.getD i 0 == ys.getD i 0
    · simp
    · simpa using ih
def fiveL (d : DocV) : List Int := [d.credit, d.paid, d.back, d.kept, d.left]
def i64S (l : List Int) : List SV := l.map fun x => .val (.int .i64 x)
theorem i64S_den (l : List Int) (ε : Env) : SV.dens ε (i64S l) = l.map (.int .i64) := by
  induction l with
  | nil => rfl
  | cons x l ih => show _ :: SV.dens ε (i64S l) = _; rw [ih]; rfl
theorem eq5_w (d e : DocV) : OpG Tryz.prog (isEqA 195) eqXY [.agg (i64S (fiveL d)), .agg (i64S (fiveL e))] [] [] (.val (.bool (decide (fiveL d = fiveL e)))) [] := by
  intro o ho
  unfold isEqA at ho
  split at ho <;> try (cases ho; done)
  rename_i t' x y t2 hop
  have e1 := Nat.eq_of_beq_eq_true ho
  subst e1
  have hx' : eqXY o = [x, y] := by unfold eqXY; rw [hop]
  rw [hx']
  refine eq_agg hop (by kernel_rfl) (fun ε => by simp only [SV.den]; rw [i64S_den]) (fun ε => by simp only [SV.den]; rw [i64S_den]) fun w => ?_
  rw [show (10000 : Nat) = 9999 + 1 from rfl, run_equalIn_array (P := Tryz.prog) w 9999 (n := 5) (e := 2) _ _ Tryz.underlying195 (show Tryz.prog.info? 2 = some _ from rfl)]
  rw [show Tryz.prog.cellsOf 2 = 1 by kernel_rfl, run_items 9998 Tryz.underlying2 (by kernel_rfl) (fiveL d) (fiveL e) (List.range 5) (fun i hi => by rw [List.mem_range] at hi; exact ⟨hi, hi⟩)]
  congr 1
  rw [Bool.eq_iff_iff, decide_eq_true_eq, List.all_eq_true]
  constructor
  · intro h
    refine List.ext_getElem rfl fun i h1 h2 => ?_
    have := h i (List.mem_range.2 h1)
    rw [List.getD_eq_getElem?_getD, List.getD_eq_getElem?_getD, List.getElem?_eq_getElem h1, List.getElem?_eq_getElem h2] at this
    simpa using this
  · intro h i _
    rw [h]; simp
end Go.Proofs.YtmhbpifhpolghaaGreat
end
