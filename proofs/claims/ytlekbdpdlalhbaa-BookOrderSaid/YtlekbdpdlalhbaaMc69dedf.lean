/- BkC4, Sm0. -/
import Derived.Test.YtlekbdpdlalhbaaM0ce4d8d
import Derived.Test.YtlekbdpdlalhbaaHo4
section
namespace Go.Proofs.Ytlekbdpdlalhbaa
set_option maxRecDepth 100000
open Go.RowKit Go.Lib Go.Tk Go.Shelf Go.Vc Go.Sx Go.Maps
set_option linter.unusedVariables false
set_option linter.unusedSimpArgs false
theorem clone_v {f : Nat} {kt : TypeId} {κ α : Type} {K : KeyKind Try.prog kt κ} {enc : α → Value} {L : List (κ × α)} (k m : Nat)
    (hf : ∀ (b : Nat) (es : Array MapEntry) (clock : Nat) (w : World), w.heap[b]? = some (.map es clock) → Calls Try.prog f #[.map (some b)] w fun e w' => e = .returned (.map (some w.heap.size)) ∧ w' = w.alloc (.map es clock)) :
    CallOK Try.prog f [.val (.map (some m))] [((0, k), .fam fun _ _ => mapC K m (ents enc L))] [] (.map 1 0) [((1, 0), .fam (mapT K enc L))] := by
  intro ε R w hM
  have hM : Mem (mapC K m (ents enc L) :: R) w := hM
  obtain ⟨es, clock, hb, h2⟩ := hM.map 0 rfl
  refine (hf m es clock w hb).mono ?_
  rintro e w' ⟨rfl, rfl⟩
  have h1 : Mem (mapC K w.heap.size (ents enc L) :: mapC K m (ents enc L) :: R) (w.alloc (.map es clock)) := hM.fresh (below_alloc _ _) (fun k => k = w.heap.size) ⟨rfl, es, clock, show (w.heap.push _)[w.heap.size]? = _ from Array.getElem?_push_size, h2⟩ (fun k hk => by subst hk; exact ⟨Nat.le_refl _, by simp⟩)
  have h1 := h1.front 1 rfl
  have e1 : ∀ x : Nat → Nat × Value, eset ε 1 x 1 = x := fun x => by simp [eset]
  refine ⟨fun _ => (w.heap.size, undef), by simp only [SV.den]; rw [e1], ?_⟩
  show Mem (mapC K m (ents enc L) :: mapC K (eset ε 1 _ 1 0).1 (ents enc L) :: R) _
  rw [e1]
  exact h1
theorem perm_lift {α β : Type} {f : α → β} : ∀ (r : List β) (l : List α), r.Perm (l.map f) → ∃ l', l'.map f = r ∧ l.Perm l'
  | [], l, h => by
    have : l = [] := List.map_eq_nil_iff.1 (List.nil_perm.1 h)
    subst this
    exact ⟨[], rfl, List.Perm.refl _⟩
  | x :: r, l, h => by
    obtain ⟨p, l', hp, hl, hr⟩ := perm_head' h
    obtain ⟨l2, h2, h3⟩ := perm_lift r l' hr
    exact ⟨p :: l2, by rw [List.map_cons, hp, h2], hl.trans (h3.cons p)⟩
theorem docsX_perm {ds ds' : List DocV} (hp : ds'.Perm ds) {b : Nat} {v : Value} {S : Nat → Prop} {w : World} (h : (docsX ds b v).at_ S w) : (docsX ds' b v).at_ S w := by
  obtain ⟨⟨L, hL⟩, h⟩ := h
  obtain ⟨L', h1, h2⟩ := perm_lift ds' L (by rw [hL]; exact hp)
  refine ⟨⟨L', h1⟩, ⟨h.1.1, h.1.2.perm ?_⟩, ?_⟩
  · unfold ents docKV
    exact (h2.map _).map _
  · obtain ⟨Sd, g1, g2, -⟩ := h.2
    exact ⟨Sd, g1, fun p hp => g2 p (h2.mem_iff.2 hp), fun p hp => by cases hp⟩
def CloneBF : Nat := 7
abbrev DocL (B : BookV) := { L : List (DocV × DocA) // L.map (·.1) = B.docs }
def oldB (B : BookV) (a : BkA) : SC := .box none [.val (.int .u8 B.self), .val (.int .i64 B.n), .val (.map (some a.d)), .val (.map (some a.o)), .val (.map (some a.h))]
def oldH (B : BookV) (a : BkA) : Heap := [((0, 0), oldB B a), ((0, 2), .fam fun _ _ => mapC kidK a.o (ents ownW B.owns)), ((0, 3), .fam fun _ _ => mapC kidK a.h (ents heldW B.helds))]
def newB (B : BookV) : Heap := [((1, 0), .box none [.val (.int .u8 B.self), .val (.int .i64 B.n), .map 1 1, .map 1 2, .map 1 3]), ((1, 2), ownsF B.owns), ((1, 3), heldsF B.helds)]
theorem clone_b (B : BookV) (hk : ∀ d ∈ B.docs, TidOk d.t ∧ DocSmall d) (hn : (B.docs.map (·.t)).Nodup) : CallOK Try.prog CloneBF [.ptr 0 0 0] [] (bkC B) (.ptr 1 0 0) (bkC B ++ [((1, 0), .fam (bookF B))]) := by
  refine callOK_intro (by kernel_rfl) fun eb R => ?_
  refine go_open (X := BkA × DocL B) (fun x => oldH B x.1 ++ [((0, 1), .fam fun _ _ => mapC tidK x.1.d (ents docW (docKV x.2.1))), ((0, 5), .fam fun _ _ => rowsC x.2.1)])
    (fun ε w hM => by
      obtain ⟨a, h⟩ := Mem.ex hM
      have h2 := h.all.front 1 rfl
      obtain ⟨L, h3⟩ := Mem.ex h2
      have h4 := docs_split h3
      exact ⟨(a, L), ((h4.front 4 rfl).front 4 rfl).front 4 rfl⟩) (fun x => by kernel_rfl) fun x => ?_
  obtain ⟨a, L, hL⟩ := x
  have c1 := clone_v (K := kidK) (enc := ownW) (L := B.owns) 2 a.o cloneO_any
  have c2 := clone_v (K := kidK) (enc := heldW) (L := B.helds) 3 a.h cloneH_any
  refine leaf_cut (rgK Try.prog CloneBF 4 []) [(0, .ptr 0 0 0), (3, .ptr 1 0 0)] (oldH B a ++ [((0, 1), .fam fun _ _ => mapC tidK a.d (ents docW (docKV L))), ((0, 5), .fam fun _ _ => rowsC L)] ++ newB B ++ [((1, 1), .obj [] 0)]) calNone false 400 [hC 3 13 c1, hC 3 18 c2, .stop 4] calNone_ok (by kernel_rfl) ?_
  refine go_open (X := Unit) (fun _ => [((1, 1), .fam (docsX []))] ++ (oldH B a ++ [((0, 1), .fam fun _ _ => mapC tidK a.d (ents docW (docKV L))), ((0, 5), .fam fun _ _ => rowsC L)] ++ newB B)) (fun ε w hM => by
      have h1 : Mem (docsX [] (ε 1 1).1 (ε 1 1).2 :: (hden ε (oldH B a ++ [((0, 1), .fam fun _ _ => mapC tidK a.d (ents docW (docKV L))), ((0, 5), .fam fun _ _ => rowsC L)] ++ newB B) ++ R)) w := (hM.front 8 rfl).weaken (c' := docsX [] (ε 1 1).1 (ε 1 1).2) (fun S hS => obj_docs hS)
      exact ⟨(), h1⟩) (fun x => by kernel_rfl) fun _ => ?_
  have r1 := rangeG (P := Try.prog) (K := tidK) (t := DT) (m := a.d) (j := 1) (L := ents docW (docKV L)) Try.underlying76
  have d1 := next_doneG (P := Try.prog) (K := tidK) (m := a.d) (L := ents docW (docKV L))
  refine go_loop (X := { x : List (Tid × (DocV × DocA)) × List (Tid × (DocV × DocA)) // (docKV L).Perm (x.1 ++ x.2) }) 0 [] (fun x => ([(0, .ptr 0 0 0), (3, .ptr 1 0 0), (33, .ptr 1 9 0)],
      oldH B a ++ [((0, 5), .fam fun _ _ => rowsC L), ((1, 9), .fam fun r _ => rngC tidK r a.d (ents docW (docKV L)) (ents docW x.1.2))] ++ newB B ++ [((1, 1), .fam (docsX (x.1.1.map (·.2.1))))]))
    (fun x => x.1.2.length) ⟨([], docKV L), List.Perm.refl _⟩ calNone false 400 [hG 4 4 r1] calNone_ok (by kernel_rfl) ?_
  rintro ⟨⟨done, left⟩, hd⟩ J hJ
  cases left with
  | cons x l =>
    have m1 := next_moreG (P := Try.prog) (K := tidK) (m := a.d) (L := ents docW (docKV L)) (left := ents docW (x :: l)) (by simp [ents])
    refine leaf_cut (rgK Try.prog CloneBF 6 [J]) [(0, .ptr 0 0 0), (3, .ptr 1 0 0), (33, .ptr 1 9 0)]
      ([((1, 9), .fam fun r _ => exC fun (y : (Tid × Value) × List (Tid × Value)) => curC tidK r a.d (ents docW (docKV L)) (ents docW (x :: l)) y.1 y.2)] ++ (oldH B a ++ [((0, 5), .fam fun _ _ => rowsC L)] ++ newB B ++ [((1, 1), .fam (docsX (done.map (·.2.1))))]))
      calNone false 400 [hG 5 0 m1, .stop 6] calNone_ok (by kernel_rfl) ?_
    refine go_open (X := { y : (Tid × (DocV × DocA)) × List (Tid × (DocV × DocA)) // (x :: l).Perm (y.1 :: y.2) }) (fun y => [((1, 9), .fam fun r _ => curC tidK r a.d (ents docW (docKV L)) (ents docW (x :: l)) (y.1.1.1, docW y.1.1.2) (ents docW y.1.2))] ++ (oldH B a ++ [((0, 5), .fam fun _ _ => rowsC L)] ++ newB B ++ [((1, 1), .fam (docsX (done.map (·.2.1))))]))
      (fun ε w hM => by obtain ⟨y, h⟩ := cur_typed hM; exact ⟨y, h⟩) (fun y => by kernel_rfl) ?_
    rintro ⟨⟨⟨k, p⟩, l'⟩, hp⟩
    have hd' : (docKV L).Perm ((done ++ [(k, p)]) ++ l') := by
      rw [List.append_assoc]
      exact hd.trans (List.Perm.append_left done hp)
    have hlt : l'.length < (x :: l).length := by have := hp.length_eq; simp only [List.length_cons] at this ⊢; omega
    have hmem : (k, p) ∈ docKV L := hd'.mem_iff.2 (by simp)
    obtain ⟨q, hq, hqe⟩ := List.mem_map.1 hmem
    injection hqe with e1 e2
    subst e2
    subst e1
    have hb : q.1 ∈ B.docs := by rw [← hL]; exact List.mem_map_of_mem hq
    have g1 := entryG (P := Try.prog) (K := tidK) (m := a.d) (L := ents docW (docKV L)) (left := ents docW (x :: l)) (left' := ents docW l') (p := (q.1.t, docW q)) (ks := .agg (tidS q.1.t)) (vs := .agg (docSA q.1 q.2)) (fun _ => rfl) (fun _ => rfl)
    have c3 := copied_rows L q hq (hk q.1 hb).2
    have hfresh : ∀ z ∈ done.map (·.2.1), z.t ≠ q.1.t := by
      have hnk : ((docKV L).map (·.1)).Nodup := by rw [docKV_map, hL]; exact hn
      have h5 := (hd'.map (·.1)).nodup_iff.1 hnk
      rw [List.map_append, List.map_append] at h5
      intro z hz
      obtain ⟨y, hy, rfl⟩ := List.mem_map.1 hz
      have hy2 : y ∈ docKV L := hd'.mem_iff.2 (List.mem_append_left _ (List.mem_append_left _ hy))
      obtain ⟨y', -, hye⟩ := List.mem_map.1 hy2
      intro e
      refine (List.nodup_append.1 (List.nodup_append.1 h5).1).2.2 y.1 (List.mem_map_of_mem hy) q.1.t (by simp) ?_
      rw [← hye] at e ⊢
      exact e
    have g2 := upd_docsN (done.map (·.2.1)) q.1 (hk q.1 hb).1 hfresh
    have ee : (done ++ [(q.1.t, q)]).map (·.2.1) = done.map (·.2.1) ++ [q.1] := by rw [List.map_append]; rfl
    rw [← ee] at g2
    exact leaf_round (lpK Try.prog CloneBF 0 []) false 400 [hG 6 0 g1, hC 7 6 c3, hG 7 7 g2] (hJ ⟨(done ++ [(q.1.t, q)], l'), hd'⟩ hlt) (by kernel_rfl)
  | nil =>
    rw [List.append_nil] at hd
    have hds : B.docs.Perm (done.map (·.2.1)) := by
      have := hd.map (·.2.1)
      unfold docKV at this
      rw [List.map_map] at this
      rw [← hL]
      exact this
    refine leaf_cut (rgK Try.prog CloneBF 8 []) [(3, .ptr 1 0 0)]
      (oldH B a ++ [((0, 5), .fam fun _ _ => rowsC L), ((1, 9), .fam fun r _ => rngC tidK r a.d (ents docW (docKV L)) [])] ++ newB B ++ [((1, 1), .fam (docsX (done.map (·.2.1))))])
      calNone false 400 [hG 5 0 d1, .stop 8] calNone_ok (by kernel_rfl) ?_
    refine go_open (X := Unit) (fun _ => [((0, 0), .fam (bookF B)), ((1, 0), .fam (bookF B))]) (fun ε w hM => ⟨(), by
      have hM : Mem (boxE none (ε 0 0).1 #[.int .u8 B.self, .int .i64 B.n, .map (some a.d), .map (some a.o), .map (some a.h)] :: mapC kidK a.o (ents ownW B.owns) :: mapC kidK a.h (ents heldW B.helds) :: rowsC L :: rngC tidK (ε 1 9).1 a.d (ents docW (docKV L)) [] :: boxE none (ε 1 0).1 #[.int .u8 B.self, .int .i64 B.n, .map (some (ε 1 1).1), .map (some (ε 1 2).1), .map (some (ε 1 3).1)] :: mapT kidK ownW B.owns (ε 1 2).1 (ε 1 2).2 :: mapT kidK heldW B.helds (ε 1 3).1 (ε 1 3).2 :: docsX (done.map (·.2.1)) (ε 1 1).1 (ε 1 1).2 :: R) w := hM
      have h1 := (hM.front 8 rfl).weaken (c' := docsX B.docs (ε 1 1).1 undef) fun S hS => docsX_perm hds hS
      have h2 := (h1.front 5 rfl).weaken (c' := mapC tidK a.d (ents docW (docKV L))) fun S hS => ⟨hS.2.1, hS.2.2.map⟩
      have h3 := docs_shut (v := undef) ((h2.front 5 rfl).front 1 rfl)
      have h4 : Mem (docsX B.docs a.d undef :: _) w := Mem.in_ex ⟨L, hL⟩ h3
      have h5 := (((h4.front 7 rfl).front 7 rfl).front 3 rfl).front 7 rfl
      have h6 := Mem.in_ex (f := fun y : BkA => allC [boxE none (ε 1 0).1 #[.int .u8 B.self, .int .i64 B.n, .map (some y.d), .map (some y.o), .map (some y.h)], docsX B.docs y.d undef, mapT kidK ownW B.owns y.o undef, mapT kidK heldW B.helds y.h undef]) ⟨(ε 1 1).1, (ε 1 2).1, (ε 1 3).1⟩ (Mem.in_all (l := [_, _, _, _]) h5)
      have h7 := (((h6.front 4 rfl).front 4 rfl).front 3 rfl).front 4 rfl
      exact Mem.in_ex (f := fun y : BkA => allC [boxE none (ε 0 0).1 #[.int .u8 B.self, .int .i64 B.n, .map (some y.d), .map (some y.o), .map (some y.h)], docsX B.docs y.d undef, mapT kidK ownW B.owns y.o undef, mapT kidK heldW B.helds y.h undef]) a (Mem.in_all (l := [_, _, _, _]) h7)⟩) (fun _ => by kernel_rfl) fun _ => ?_
    exact leaf_end calNone false 400 [] calNone_ok (by kernel_rfl)
end Go.Proofs.Ytlekbdpdlalhbaa
end
section
namespace Go.Proofs.Ytlekbdpdlalhbaa
set_option maxRecDepth 100000
open Go.RowKit Go.Lib Go.Tk Go.Shelf Go.Vc Go.Sx Go.Maps
set_option linter.unusedVariables false
set_option linter.unusedSimpArgs false

theorem len_val {kt : TypeId} {κ : Type} {K : KeyKind Try.prog kt κ} {m j n : Nat} {L : List (κ × Value)} (hn : L.length = n) :
    OpG Try.prog (isLenM Try.prog) lenX [.val (.map (some m))] [((0, j), .fam fun _ _ => mapC K m L)] [] (.val (.int .i64 (n : Int))) [] := by
  intro o ho
  unfold isLenM at ho
  split at ho <;> try (cases ho; done)
  rename_i c hop
  split at ho <;> try (cases ho; done)
  rename_i hc
  split at ho <;> try (cases ho; done)
  rename_i x t' ha ht
  split at ho <;> try (cases ho; done)
  rename_i k' e' hT
  have hx' : lenX o = [x] := by unfold lenX; rw [hop]; exact ha
  rw [hx']
  refine ⟨fun q hq => by rw [hop]; simp [Op.operands, Call.operands, hc]; have := arr_one ha; rw [this]; simpa using hq, fun ε ρ R w hx hM => ?_⟩
  simp only [List.map_cons, List.map_nil, SV.dens, SV.den, List.cons.injEq, and_true] at hx
  have hM : Mem (mapC K m L :: R) w := hM
  obtain ⟨es, clock, hb, hp, -⟩ := hM.of 0 rfl (φ := MapAt K w m L) (fun S hS => hS.2)
  have hlen : es.size = n := by have := hp.length_eq; simp at this; omega
  have := x_lenM (P := Try.prog) (ρ := ρ) (o := o) (w := w) hop hc (arr_one ha) ht hx hT hb
  rw [hlen] at this
  exact res_ok this ⟨fun _ => (0, undef), by simp only [SV.den], hM⟩
/-- do two maps have the same? -/
def sameM {κ α : Type} [DecidableEq κ] [DecidableEq α] (L M : List (κ × α)) : Bool := decide (L.length = M.length) && L.all fun p => decide (lkt M p.1 = some p.2)
theorem sameM_self {κ α : Type} [DecidableEq κ] [DecidableEq α] {L : List (κ × α)} (h : (L.map (·.1)).Nodup) : sameM L L = true := by
  unfold sameM
  rw [decide_eq_true rfl, Bool.true_and, List.all_eq_true]
  exact fun p hp => decide_eq_true (lkt_of h hp)
theorem sameM_len {κ α : Type} [DecidableEq κ] [DecidableEq α] {L M : List (κ × α)} (h : L.length ≠ M.length) : sameM L M = false := by
  unfold sameM; rw [decide_eq_false h]; rfl
theorem sameM_bad {κ α : Type} [DecidableEq κ] [DecidableEq α] {L M : List (κ × α)} {p : κ × α} (hp : p ∈ L) (h : lkt M p.1 ≠ some p.2) : sameM L M = false := by
  unfold sameM
  rw [Bool.and_eq_false_iff]
  refine .inr ?_
  rw [Bool.eq_false_iff]
  intro e
  exact h (of_decide_eq_true (List.all_eq_true.1 e p hp))
theorem sameM_mk {κ α : Type} [DecidableEq κ] [DecidableEq α] {L M : List (κ × α)} (hl : L.length = M.length) (h : ∀ p ∈ L, lkt M p.1 = some p.2) : sameM L M = true := by
  unfold sameM
  rw [decide_eq_true hl, Bool.true_and, List.all_eq_true]
  exact fun p hp => decide_eq_true (h p hp)
/-- two coupons compared, cell by cell -/
def legEq (a b : Leg) : Bool := decide (a.c = b.c) && (decide (a.f = b.f) && (decide (a.x = b.x) && true))
def cpnEq (a b : Cpn) : Bool := legEq a.l b.l && (decide (a.v = b.v) && (decide (a.s = b.s) && (decide (a.n = b.n) && true)))
def ownEq (a b : OwnV) : Bool := cpnEq a.k b.k && ((a.away == b.away) && (decide (a.dst = b.dst) && ((a.paid == b.paid) && ((a.asked == b.asked) && true))))
def heldEq (a b : HeldV) : Bool := cpnEq a.k b.k && ((a.here == b.here) && ((a.paid == b.paid) && ((a.wanted == b.wanted) && ((a.billed == b.billed) && true))))
theorem cpnEq_iff (a b : Cpn) : cpnEq a b = true ↔ a = b := by
  obtain ⟨⟨a1, a2, a3⟩, a4, a5, a6⟩ := a
  obtain ⟨⟨b1, b2, b3⟩, b4, b5, b6⟩ := b
  simp [cpnEq, legEq, and_assoc]
theorem ownEq_iff (a b : OwnV) : ownEq a b = true ↔ a = b := by
  obtain ⟨a1, a2, a3, a4, a5⟩ := a
  obtain ⟨b1, b2, b3, b4, b5⟩ := b
  unfold ownEq
  rw [Bool.and_eq_true, cpnEq_iff]
  simp
theorem heldEq_iff (a b : HeldV) : heldEq a b = true ↔ a = b := by
  obtain ⟨a1, a2, a3, a4, a5⟩ := a
  obtain ⟨b1, b2, b3, b4, b5⟩ := b
  unfold heldEq
  rw [Bool.and_eq_true, cpnEq_iff]
  simp
theorem ownEq_no {a b : OwnV} (h : a ≠ b) : ownEq a b = false := by
  cases e : ownEq a b with
  | false => rfl
  | true => exact absurd ((ownEq_iff a b).1 e) h
theorem heldEq_no {a b : HeldV} (h : a ≠ b) : heldEq a b = false := by
  cases e : heldEq a b with
  | false => rfl
  | true => exact absurd ((heldEq_iff a b).1 e) h
/-- what a map says that lies there -/
theorem map_facts {kt : TypeId} {κ α : Type} {K : KeyKind Try.prog kt κ} {enc : α → Value} {L : List (κ × α)} {m : Nat} {R : List Chunk} {w : World} (h : Mem (mapC K m (ents enc L) :: R) w) : (L.map (·.1)).Nodup ∧ ∀ p ∈ L, K.ok p.1 := by
  obtain ⟨es, clock, hb, hp, hn, hk, -⟩ := h.of 0 rfl (φ := MapAt K w m (ents enc L)) (fun S hS => hS.2)
  refine ⟨by unfold ents at hn; rwa [List.map_map] at hn, fun p hp' => ?_⟩
  exact hk (p.1, enc p.2) (List.mem_map_of_mem (f := fun p : κ × α => (p.1, enc p.2)) hp')
end Go.Proofs.Ytlekbdpdlalhbaa
end
