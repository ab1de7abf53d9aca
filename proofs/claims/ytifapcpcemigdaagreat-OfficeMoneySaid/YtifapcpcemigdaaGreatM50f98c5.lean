/- BkC4, Of1, Of2, SxN. -/
import Derived.Test.YtifapcpcemigdaaGreatMeeca872
import Derived.Test.YtifapcpcemigdaaGreatM533403a
import Derived.Test.YtifapcpcemigdaaGreatM151558f
import Derived.Test.YtifapcpcemigdaaGreatM888f53c
import Derived.Test.YtifapcpcemigdaaGreatSxE
set_option maxRecDepth 100000
set_option linter.unusedVariables false
set_option linter.unusedSimpArgs false
set_option linter.unusedSectionVars false
section
namespace Go.Proofs.YtifapcpcemigdaaGreat
open Go.RowKit Go.Lib Go.Tk Go.Shelf Go.Vc Go.Sx Go.Maps
theorem clone_v {f : Nat} {kt : TypeId} {κ α : Type} {K : KeyKind Tryz.prog kt κ} {enc : α → Value} {L : List (κ × α)} (k m : Nat)
    (hf : ∀ (b : Nat) (es : Array MapEntry) (clock : Nat) (w : World), w.heap[b]? = some (.map es clock) → Calls Tryz.prog f #[.map (some b)] w fun e w' => e = .returned (.map (some w.heap.size)) ∧ w' = w.alloc (.map es clock)) :
    CallOK Tryz.prog f [.val (.map (some m))] [((0, k), .fam fun _ _ => mapC K m (ents enc L))] [] (.map 1 0) [((1, 0), .fam (mapT K enc L))] := by
  intro ε R w hM
  have hM : Mem (mapC K m (ents enc L) :: R) w := hM
  obtain ⟨es, clock, hb, h2⟩ := hM.map 0 rfl
  refine (hf m es clock w hb).mono ?_
  rintro e w' ⟨rfl, rfl⟩
  have h1 : Mem (mapC K w.heap.size (ents enc L) :: mapC K m (ents enc L) :: R) (w.alloc (.map es clock)) := hM.fresh (below_alloc _ _) (fun k => k = w.heap.size) ⟨rfl, es, clock, show (w.heap.push _)[w.heap.size]? = _ from Array.getElem?_push_size, h2⟩ (fun k hk => by subst hk; exact ⟨Nat.le_refl _, by simp⟩)
  have h1 := h1.front 1 rfl
  have e1 : ∀ x : Nat → Nat × Value, eset ε 1 x 1 = x := fun x => by simp [eset]
  refine ⟨fun _ => (w.heap.size, undef), by simp only [SV.den]; rw [e1], ?_⟩
  show Mem (mapC K m (ents enc L) :: mapC K (eset ε 1 _ 1 0).1 (ents enc L) :: R) _
  rw [e1]
  exact h1
theorem perm_lift {α β : Type} {f : α → β} : ∀ (r : List β) (l : List α), r.Perm (l.map f) → ∃ l', l'.map f = r ∧ l.Perm l'
  | [], l, h => by
    have : l = [] := List.map_eq_nil_iff.1 (List.nil_perm.1 h)
    subst this
    exact ⟨[], rfl, List.Perm.refl _⟩
  | x :: r, l, h => by
    obtain ⟨p, l', hp, hl, hr⟩ := perm_head' h
    obtain ⟨l2, h2, h3⟩ := perm_lift r l' hr
    exact ⟨p :: l2, by rw [List.map_cons, hp, h2], hl.trans (h3.cons p)⟩
theorem docsX_perm {ds ds' : List DocV} (hp : ds'.Perm ds) {b : Nat} {v : Value} {S : Nat → Prop} {w : World} (h : (docsX ds b v).at_ S w) : (docsX ds' b v).at_ S w := by
  obtain ⟨⟨L, hL⟩, h⟩ := h
  obtain ⟨L', h1, h2⟩ := perm_lift ds' L (by rw [hL]; exact hp)
  refine ⟨⟨L', h1⟩, ⟨h.1.1, h.1.2.perm ?_⟩, ?_⟩
  · unfold ents docKV
    exact (h2.map _).map _
  · obtain ⟨Sd, g1, g2, -⟩ := h.2
    exact ⟨Sd, g1, fun p hp => g2 p (h2.mem_iff.2 hp), fun p hp => by cases hp⟩
def CloneBF : Nat := 28
abbrev DocL (B : BookV) := { L : List (DocV × DocA) // L.map (·.1) = B.docs }
def oldB (B : BookV) (a : BkA) : SC := .box none [.val (.int .u8 B.self), .val (.int .i64 B.n), .val (.map (some a.d)), .val (.map (some a.o)), .val (.map (some a.h))]
def oldH (B : BookV) (a : BkA) : Heap := [((0, 0), oldB B a), ((0, 2), .fam fun _ _ => mapC kidK a.o (ents ownW B.owns)), ((0, 3), .fam fun _ _ => mapC kidK a.h (ents heldW B.helds))]
def newB (B : BookV) : Heap := [((1, 0), .box none [.val (.int .u8 B.self), .val (.int .i64 B.n), .map 1 1, .map 1 2, .map 1 3]), ((1, 2), ownsF B.owns), ((1, 3), heldsF B.helds)]
theorem clone_b (B : BookV) (hk : ∀ d ∈ B.docs, TidOk d.t ∧ DocSmall d) (hn : (B.docs.map (·.t)).Nodup) : CallOK Tryz.prog CloneBF [.ptr 0 0 0] [] (bkC B) (.ptr 1 0 0) (bkC B ++ [((1, 0), .fam (bookF B))]) := by
  refine callOK_intro (by kernel_rfl) fun eb R => ?_
  refine go_open (X := BkA × DocL B) (fun x => oldH B x.1 ++ [((0, 1), .fam fun _ _ => mapC tidK x.1.d (ents docW (docKV x.2.1))), ((0, 5), .fam fun _ _ => rowsC x.2.1)])
    (fun ε w hM => by
      obtain ⟨a, h⟩ := Mem.ex hM
      have h2 := h.all.front 1 rfl
      obtain ⟨L, h3⟩ := Mem.ex h2
      have h4 := docs_split h3
      exact ⟨(a, L), ((h4.front 4 rfl).front 4 rfl).front 4 rfl⟩) (fun x => by kernel_rfl) fun x => ?_
  obtain ⟨a, L, hL⟩ := x
  have c1 := clone_v (K := kidK) (enc := ownW) (L := B.owns) 2 a.o cloneO_any
  have c2 := clone_v (K := kidK) (enc := heldW) (L := B.helds) 3 a.h cloneH_any
  refine leaf_cut (rgK Tryz.prog CloneBF 4 []) [(0, .ptr 0 0 0), (3, .ptr 1 0 0)] (oldH B a ++ [((0, 1), .fam fun _ _ => mapC tidK a.d (ents docW (docKV L))), ((0, 5), .fam fun _ _ => rowsC L)] ++ newB B ++ [((1, 1), .obj [] 0)]) calNone false 400 [hC 3 13 c1, hC 3 18 c2, .stop 4] calNone_ok (by kernel_rfl) ?_
  refine go_open (X := Unit) (fun _ => [((1, 1), .fam (docsX []))] ++ (oldH B a ++ [((0, 1), .fam fun _ _ => mapC tidK a.d (ents docW (docKV L))), ((0, 5), .fam fun _ _ => rowsC L)] ++ newB B)) (fun ε w hM => by
      have h1 : Mem (docsX [] (ε 1 1).1 (ε 1 1).2 :: (hden ε (oldH B a ++ [((0, 1), .fam fun _ _ => mapC tidK a.d (ents docW (docKV L))), ((0, 5), .fam fun _ _ => rowsC L)] ++ newB B) ++ R)) w := (hM.front 8 rfl).weaken (c' := docsX [] (ε 1 1).1 (ε 1 1).2) (fun S hS => obj_docs hS)
      exact ⟨(), h1⟩) (fun x => by kernel_rfl) fun _ => ?_
  have r1 := rangeG (P := Tryz.prog) (K := tidK) (t := DT) (m := a.d) (j := 1) (L := ents docW (docKV L)) Tryz.underlying96
  have d1 := next_doneG (P := Tryz.prog) (K := tidK) (m := a.d) (L := ents docW (docKV L))
  refine go_loop (X := { x : List (Tid × (DocV × DocA)) × List (Tid × (DocV × DocA)) // (docKV L).Perm (x.1 ++ x.2) }) 0 [] (fun x => ([(0, .ptr 0 0 0), (3, .ptr 1 0 0), (33, .ptr 1 9 0)],
      oldH B a ++ [((0, 5), .fam fun _ _ => rowsC L), ((1, 9), .fam fun r _ => rngC tidK r a.d (ents docW (docKV L)) (ents docW x.1.2))] ++ newB B ++ [((1, 1), .fam (docsX (x.1.1.map (·.2.1))))]))
    (fun x => x.1.2.length) ⟨([], docKV L), List.Perm.refl _⟩ calNone false 400 [hG 4 4 r1] calNone_ok (by kernel_rfl) ?_
  rintro ⟨⟨done, left⟩, hd⟩ J hJ
  cases left with
  | cons x l =>
    have m1 := next_moreG (P := Tryz.prog) (K := tidK) (m := a.d) (L := ents docW (docKV L)) (left := ents docW (x :: l)) (by simp [ents])
    refine leaf_cut (rgK Tryz.prog CloneBF 6 [J]) [(0, .ptr 0 0 0), (3, .ptr 1 0 0), (33, .ptr 1 9 0)]
      ([((1, 9), .fam fun r _ => exC fun (y : (Tid × Value) × List (Tid × Value)) => curC tidK r a.d (ents docW (docKV L)) (ents docW (x :: l)) y.1 y.2)] ++ (oldH B a ++ [((0, 5), .fam fun _ _ => rowsC L)] ++ newB B ++ [((1, 1), .fam (docsX (done.map (·.2.1))))]))
      calNone false 400 [hG 5 0 m1, .stop 6] calNone_ok (by kernel_rfl) ?_
    refine go_open (X := { y : (Tid × (DocV × DocA)) × List (Tid × (DocV × DocA)) // (x :: l).Perm (y.1 :: y.2) }) (fun y => [((1, 9), .fam fun r _ => curC tidK r a.d (ents docW (docKV L)) (ents docW (x :: l)) (y.1.1.1, docW y.1.1.2) (ents docW y.1.2))] ++ (oldH B a ++ [((0, 5), .fam fun _ _ => rowsC L)] ++ newB B ++ [((1, 1), .fam (docsX (done.map (·.2.1))))]))
      (fun ε w hM => by obtain ⟨y, h⟩ := cur_typed hM; exact ⟨y, h⟩) (fun y => by kernel_rfl) ?_
    rintro ⟨⟨⟨k, p⟩, l'⟩, hp⟩
    have hd' : (docKV L).Perm ((done ++ [(k, p)]) ++ l') := by
      rw [List.append_assoc]
      exact hd.trans (List.Perm.append_left done hp)
    have hlt : l'.length < (x :: l).length := by have := hp.length_eq; simp only [List.length_cons] at this ⊢; omega
    have hmem : (k, p) ∈ docKV L := hd'.mem_iff.2 (by simp)
    obtain ⟨q, hq, hqe⟩ := List.mem_map.1 hmem
    injection hqe with e1 e2
    subst e2
    subst e1
    have hb : q.1 ∈ B.docs := by rw [← hL]; exact List.mem_map_of_mem hq
    have g1 := entryG (P := Tryz.prog) (K := tidK) (m := a.d) (L := ents docW (docKV L)) (left := ents docW (x :: l)) (left' := ents docW l') (p := (q.1.t, docW q)) (ks := .agg (tidS q.1.t)) (vs := .agg (docSA q.1 q.2)) (fun _ => rfl) (fun _ => rfl)
    have c3 := copied_rows L q hq (hk q.1 hb).2
    have hfresh : ∀ z ∈ done.map (·.2.1), z.t ≠ q.1.t := by
      have hnk : ((docKV L).map (·.1)).Nodup := by rw [docKV_map, hL]; exact hn
      have h5 := (hd'.map (·.1)).nodup_iff.1 hnk
      rw [List.map_append, List.map_append] at h5
      intro z hz
      obtain ⟨y, hy, rfl⟩ := List.mem_map.1 hz
      have hy2 : y ∈ docKV L := hd'.mem_iff.2 (List.mem_append_left _ (List.mem_append_left _ hy))
      obtain ⟨y', -, hye⟩ := List.mem_map.1 hy2
      intro e
      refine (List.nodup_append.1 (List.nodup_append.1 h5).1).2.2 y.1 (List.mem_map_of_mem hy) q.1.t (by simp) ?_
      rw [← hye] at e ⊢
      exact e
    have g2 := upd_docsN (done.map (·.2.1)) q.1 (hk q.1 hb).1 hfresh
    have ee : (done ++ [(q.1.t, q)]).map (·.2.1) = done.map (·.2.1) ++ [q.1] := by rw [List.map_append]; rfl
    rw [← ee] at g2
    exact leaf_round (lpK Tryz.prog CloneBF 0 []) false 400 [hG 6 0 g1, hC 7 6 c3, hG 7 7 g2] (hJ ⟨(done ++ [(q.1.t, q)], l'), hd'⟩ hlt) (by kernel_rfl)
  | nil =>
    rw [List.append_nil] at hd
    have hds : B.docs.Perm (done.map (·.2.1)) := by
      have := hd.map (·.2.1)
      unfold docKV at this
      rw [List.map_map] at this
      rw [← hL]
      exact this
    refine leaf_cut (rgK Tryz.prog CloneBF 8 []) [(3, .ptr 1 0 0)]
      (oldH B a ++ [((0, 5), .fam fun _ _ => rowsC L), ((1, 9), .fam fun r _ => rngC tidK r a.d (ents docW (docKV L)) [])] ++ newB B ++ [((1, 1), .fam (docsX (done.map (·.2.1))))])
      calNone false 400 [hG 5 0 d1, .stop 8] calNone_ok (by kernel_rfl) ?_
    refine go_open (X := Unit) (fun _ => [((0, 0), .fam (bookF B)), ((1, 0), .fam (bookF B))]) (fun ε w hM => ⟨(), by
      have hM : Mem (boxE none (ε 0 0).1 #[.int .u8 B.self, .int .i64 B.n, .map (some a.d), .map (some a.o), .map (some a.h)] :: mapC kidK a.o (ents ownW B.owns) :: mapC kidK a.h (ents heldW B.helds) :: rowsC L :: rngC tidK (ε 1 9).1 a.d (ents docW (docKV L)) [] :: boxE none (ε 1 0).1 #[.int .u8 B.self, .int .i64 B.n, .map (some (ε 1 1).1), .map (some (ε 1 2).1), .map (some (ε 1 3).1)] :: mapT kidK ownW B.owns (ε 1 2).1 (ε 1 2).2 :: mapT kidK heldW B.helds (ε 1 3).1 (ε 1 3).2 :: docsX (done.map (·.2.1)) (ε 1 1).1 (ε 1 1).2 :: R) w := hM
      have h1 := (hM.front 8 rfl).weaken (c' := docsX B.docs (ε 1 1).1 undef) fun S hS => docsX_perm hds hS
      have h2 := (h1.front 5 rfl).weaken (c' := mapC tidK a.d (ents docW (docKV L))) fun S hS => ⟨hS.2.1, hS.2.2.map⟩
      have h3 := docs_shut (v := undef) ((h2.front 5 rfl).front 1 rfl)
      have h4 : Mem (docsX B.docs a.d undef :: _) w := Mem.in_ex ⟨L, hL⟩ h3
      have h5 := (((h4.front 7 rfl).front 7 rfl).front 3 rfl).front 7 rfl
      have h6 := Mem.in_ex (f := fun y : BkA => allC [boxE none (ε 1 0).1 #[.int .u8 B.self, .int .i64 B.n, .map (some y.d), .map (some y.o), .map (some y.h)], docsX B.docs y.d undef, mapT kidK ownW B.owns y.o undef, mapT kidK heldW B.helds y.h undef]) ⟨(ε 1 1).1, (ε 1 2).1, (ε 1 3).1⟩ (Mem.in_all (l := [_, _, _, _]) h5)
      have h7 := (((h6.front 4 rfl).front 4 rfl).front 3 rfl).front 4 rfl
      exact Mem.in_ex (f := fun y : BkA => allC [boxE none (ε 0 0).1 #[.int .u8 B.self, .int .i64 B.n, .map (some y.d), .map (some y.o), .map (some y.h)], docsX B.docs y.d undef, mapT kidK ownW B.owns y.o undef, mapT kidK heldW B.helds y.h undef]) a (Mem.in_all (l := [_, _, _, _]) h7)⟩) (fun _ => by kernel_rfl) fun _ => ?_
    exact leaf_end calNone false 400 [] calNone_ok (by kernel_rfl)
end Go.Proofs.YtifapcpcemigdaaGreat
end
section
namespace Go.Proofs.YtifapcpcemigdaaGreat
open Go.RowKit Go.Lib Go.Tk Go.Shelf Go.Vc Go.Sx
structure OffV where
  b : BookV
  p : PostV
def offA (s k : Nat) (O : OffV) : Heap := [((s, k), .box none [.ptr s (k + 1) 0, .ptr s (k + 2) 0]), ((s, k + 1), .fam (bookF O.b)), ((s, k + 2), .fam (postF O.p))]
def offH (O : OffV) : Heap := offA 0 0 O
def OffNewF : Nat := 9
def OffCloneF : Nat := 19
def OffBookF : Nat := 11
def OffPostF : Nat := 18
def OffTryF : Nat := 10
def offNew (self n : Int) : OffV := ⟨bookNew self n, newP self n⟩
def nilPO : SV := .val (.pointer none)
theorem newE_0 {self n : Int} (h : bookE self n = 0) : newE self n = 0 := by
  unfold bookE at h
  unfold newE
  cases e : (decide (n < 2) || (decide (8 < n) || decide (n ≤ self))) with
  | true => rw [e] at h; cases h
  | false =>
    simp only [Bool.or_eq_false_iff, decide_eq_false_iff_not] at e
    rw [if_neg (by omega)]
theorem offNew_no {self n : Int} (hs : 0 ≤ self ∧ self ≤ 255) (h : bookE self n ≠ 0) : CallOK Tryz.prog OffNewF [.val (.int .u8 self), .val (.int .i64 n)] [] [] (.tup [nilPO, eN 1]) [] := by
  have c1 := new_noC hs h
  exact callOK_run 400 [hC 1 2 c1] (by kernel_rfl) (by kernel_rfl)
theorem offNew_ok {self n : Int} (hs : 0 ≤ self ∧ self ≤ 255) (h : bookE self n = 0) : CallOK Tryz.prog OffNewF [.val (.int .u8 self), .val (.int .i64 n)] [] [] (.tup [.ptr 1 0 0, eN 0]) (offA 1 0 (offNew self n)) := by
  have c1 := new_okC hs h
  have c2 := new_cn self n hs.1 hs.2 (newE_0 h)
  exact callOK_run 400 [hC 1 2 c1, hC 4 2 c2] (by kernel_rfl) (by kernel_rfl)
structure OffOk (O : OffV) : Prop where
  b : ∀ d ∈ O.b.docs, TidOk d.t ∧ DocSmall d
  n : (O.b.docs.map (·.t)).Nodup
  p : PostOk O.p
theorem offClone_w {O : OffV} (h : OffOk O) : CallOK Tryz.prog OffCloneF [.ptr 0 0 0] [] (offH O) (.ptr 1 0 0) (offH O ++ offA 1 0 O) := by
  have c1 := clone_b O.b h.b h.n
  have c2 := clone_p O.p h.p
  exact callOK_run 400 [hC 3 4 c1, hC 3 9 c2] (by kernel_rfl) (by kernel_rfl)
theorem offBook_w {O : OffV} (h : OffOk O) : CallOK Tryz.prog OffBookF [.ptr 0 0 0] [] (offH O) (.ptr 1 0 0) (offH O ++ [((1, 0), .fam (bookF O.b))]) := by
  have c1 := clone_b O.b h.b h.n
  exact callOK_run 400 [hC 3 4 c1] (by kernel_rfl) (by kernel_rfl)
theorem offPost_w {O : OffV} (h : OffOk O) : CallOK Tryz.prog OffPostF [.ptr 0 0 0] [] (offH O) (.ptr 1 0 0) (offH O ++ [((1, 0), .fam (postF O.p))]) := by
  have c2 := clone_p O.p h.p
  exact callOK_run 400 [hC 3 4 c2] (by kernel_rfl) (by kernel_rfl)
end Go.Proofs.YtifapcpcemigdaaGreat
end
section
namespace Go.Proofs.YtifapcpcemigdaaGreat
open Go.RowKit Go.Lib Go.Tk Go.Shelf Go.Vc Go.Sx
def toMsg (m : MsV) : Msg := ⟨m.kind, m.key.t.c, m.key.t.r, m.key.i, m.k.l.c, m.k.l.f, m.k.l.x, m.k.v, m.k.s, m.k.n, m.amt, m.code⟩
structure CmdO where
  kind : Int
  t : Tid
  i : Int
  s : SaleV
  amt : Int
def CmdO.k (c : CmdO) : Kid := ⟨c.t, c.i⟩
structure RecO where
  kind : Int
  cmd : CmdO
  src : Int
  num : Int
  m : MsV
def pushQ (P : PostV) (x : OutV) : Int × PostV := doP (fun X => pushX X (toMsg x.m)) P x.dst
def outQ (may : PostV → OutV → Bool) (P : PostV) : List OutV → Int × PostV
  | [] => (0, P)
  | x :: _ => bif may P x then pushQ P x else (3, P)
def asksB (k : Int) : Bool := decide (k = 1) || (decide (k = 4) || decide (k = 6))
def halfB (A : BookV) (P : PostV) (x : OutV) : Bool := decide (lenP P x.dst < 16) && (!asksB x.m.kind || decide ((openN A x.dst : Int) < 16))
def ticQ (B : BookV) (c : CmdO) : XR := if c.kind = 1 then exIssue B c.s else if c.kind = 2 then exDisplay B c.t else if c.kind = 3 then exVoid B c.t else if c.kind = 4 then exRefund B c.t else exExchange B c.t c.s
def coupQ (B : BookV) (c : CmdO) : HR := if c.kind = 6 then wantQ B c.k else if c.kind = 7 then returnQ B c.k else if c.kind = 8 then recallQ B c.k else if c.kind = 13 then billQ B c.k c.amt else useQ B c.k c.kind
structure TR where
  e : Int
  cd : Int
  t : Tid
  amt : Int
  st : List Int
  o : OffV
def cmdCQ (P : PostV) (A : BookV) (t : Tid) (q : HR) : TR := bif decide (q.e = 0) then ⟨(outQ (halfB A) P q.out).1, 0, t, 0, [], ⟨q.b, (outQ (halfB A) P q.out).2⟩⟩ else ⟨q.e, 0, tid0, 0, [], ⟨q.b, P⟩⟩
def cmdTQ (P : PostV) (q : XR) : TR := ⟨q.e, q.e, q.t, q.amt, q.st, ⟨q.b, P⟩⟩
def cmdQ (O : OffV) (c : CmdO) (A : BookV) : TR :=
  if c.kind < 1 ∨ 13 < c.kind then ⟨1, 0, tid0, 0, [], O⟩ else if c.kind ≤ 5 then cmdTQ O.p (ticQ O.b c) else cmdCQ O.p A c.t (coupQ O.b c)
def mineB (k : Int) : Bool := decide (6 ≤ k) && decide (k ≤ 8)
def hearO (B : BookV) (c : Int) (m : MsV) : HR := bif mineB m.kind then hearBQ B c m else hearQ B c m
def packHQ (P : PostV) (q : HR) : Int × OffV := bif decide (q.e = 0) then ((outQ (fun _ _ => true) P q.out).1, ⟨q.b, (outQ (fun _ _ => true) P q.out).2⟩) else (q.e, ⟨q.b, P⟩)
def tookQ (P : PostV) (r : RecO) : Int × PostV := doP (fun X => tookX X r.num) P r.src
def packQ (O : OffV) (r : RecO) : Int × OffV :=
  bif decide (r.src = O.b.self) || decide (O.b.n ≤ r.src) then (1, O)
  else bif decide ((tookQ O.p r).1 = 0) then packHQ (tookQ O.p r).2 (hearO O.b r.src r.m) else ((tookQ O.p r).1, ⟨O.b, (tookQ O.p r).2⟩)
def ackQ (O : OffV) (r : RecO) : Int × OffV := ((doP (fun X => ackX X r.num) O.p r.src).1, ⟨O.b, (doP (fun X => ackX X r.num) O.p r.src).2⟩)
def noTR (x : Int × OffV) : TR := ⟨x.1, 0, tid0, 0, [], x.2⟩
def tryQ (O : OffV) (r : RecO) : TR := if r.kind = 1 then cmdQ O r.cmd O.b else if r.kind = 2 then noTR (packQ O r) else if r.kind = 3 then noTR (ackQ O r) else ⟨1, 0, tid0, 0, [], O⟩
theorem cmd_cd {O : OffV} {c : CmdO} {A : BookV} (h : (cmdQ O c A).e = 0) : (cmdQ O c A).cd = 0 := by
  unfold cmdQ at *
  by_cases g : c.kind < 1 ∨ 13 < c.kind
  · rw [if_pos g]
  · rw [if_neg g] at h ⊢
    by_cases g2 : c.kind ≤ 5
    · rw [if_pos g2] at h ⊢; exact h
    · rw [if_neg g2]
      unfold cmdCQ
      cases decide ((coupQ O.b c).e = 0) <;> rfl
def stepO (O : OffV) (r : RecO) : OffV := bif decide ((tryQ O r).e = 0) then (tryQ O r).o else O
end Go.Proofs.YtifapcpcemigdaaGreat
end
section
namespace Go.Sx
open Go.RowKit Go.Tk Go.Lib Go.Shelf Go.Vc
section
variable {P : Program} {cal : Callee P} {r nt : Nat} {ops : List Oper} {lo : Nat} {eb : Env} {R : List Chunk} {σ : St} {ε : Env} {a0 : Act} {w0 : World}
theorem runOps_drawG {Q : Exit → Act → World → Prop} {q : Ran P} (sp : Nat → Bool) (RR : (Nat → Bool) → Env → List Chunk) (hcal : CalleeOK P cal)
    (r1 : q.outs.length = ops.length) (r2 : q.slots = slF ops q.outs ops.length σ.slots) (r3 : q.heap = heapAt q.outs (fun j => Nat.blt j (0 + ops.length)) 0 σ.heap)
    (r4 : ∀ j o, ops[j]? = some o → ∃ out, q.outs[j]? = some out ∧ ((sp j = false ∧ ∃ hs1 hs2, oneOp P cal r nt ops (0 + j) (σ.next + j) o (slF ops q.outs j σ.slots) (heapAt q.outs (fun x => Nat.blt x (0 + j)) 0 σ.heap) hs1 = some (out, hs2)) ∨ (sp j = true ∧ out.upd = [] ∧ out.touch = [] ∧ out.v.ok (ltB (σ.next + j + 1)) = true ∧ o.guard = none)))
    (hk : ChkOK (chks q.outs)) (hd : drawOK P nt σ.next ops q.outs = true) (hr : Rel nt lo eb R σ ε a0 w0)
    (hsp : ∀ j o out, ops[j]? = some o → q.outs[j]? = some out → sp j = true → ∀ (L : Nat → Bool) (ε1 : Env) (w : World) (ρ : Operand → Value) (R' : List Chunk), L j = false → (∀ x, x ∈ (ancL ops).getD j [] → L x = true) → (∀ x, x < ops.length → L x = true → ∀ y, y ∈ (ancL ops).getD x [] → L y = true) → EvOK (slotsEv (slF ops q.outs j σ.slots)) o ρ ε1 (σ.next + j) →
      Mem (RR L ε1 ++ R') w → Res P (fun u w' => ∃ x, u = out.v.den (eset ε1 (σ.next + j) x) ∧ Mem (RR (setL L j) (eset ε1 (σ.next + j) x) ++ R') w') ((execOp ρ o).run P w))
    (hRR0 : ∀ ε1, RR (fun _ => false) ε1 = [])
    (hRR : ∀ j, j < ops.length → sp j = false → ∀ (L : Nat → Bool) (ε1 : Env) x, L j = false → (∀ x, x < ops.length → L x = true → ∀ y, y ∈ (ancL ops).getD x [] → L y = true) → RR (setL L j) (eset ε1 (σ.next + j) x) = RR L ε1)
    (hQ : ∀ ε' a' w', Rel nt lo eb (RR (fun j => Nat.blt j ops.length) ε' ++ R) ⟨q.slots, q.heap, σ.next + ops.length⟩ ε' a' w' → Q .normal a' w') : anyRes P .any ops.toArray Q ops.toArray.size (Array.replicate ops.toArray.size false) a0 w0.drew := by
  unfold drawOK at hd
  simp only [Bool.and_eq_true] at hd
  obtain ⟨d1, d2, d3, d4, d5, d6, d7⟩ := hd
  have C := ssaC2 d2
  generalize hanc : ancL ops = anc at *
  generalize hN : σ.next = N at *
  have hNpos : lo ≤ N := by rw [← hN]; exact hr.pos
  have scAt := fun (j : Nat) (o : Out) (ho : q.outs[j]? = some o) => by have := scopeB_at d6 j o ho; rwa [Nat.zero_add] at this
  have inAt : ∀ (i j : Nat) (o o' : Out), i ≠ j → q.outs[i]? = some o → q.outs[j]? = some o' → i ∈ anc.getD j [] ∨ j ∈ anc.getD i [] ∨ ((∀ n ∈ names o.upd, n ∉ o'.touch) ∧ ∀ n ∈ names o'.upd, n ∉ o.touch) := fun i j o o' hne hi hj => by
    rcases Nat.lt_or_ge i j with hlt | hge
    · have := indepB_at d7 i j o o' hlt hi hj
      rw [Nat.zero_add, Nat.zero_add] at this
      rcases this with h | h
      · exact .inl h
      · exact .inr (.inr h)
    · have := indepB_at d7 j i o' o (by omega) hj hi
      rw [Nat.zero_add, Nat.zero_add] at this
      rcases this with h | h
      · exact .inr (.inl h)
      · exact .inr (.inr ⟨h.2, h.1⟩)
  have hlen : ∀ {j : Nat} {out : Out}, q.outs[j]? = some out → ∃ o, ops[j]? = some o := fun {j out} hj => by
    have := (List.getElem?_eq_some_iff.1 hj).1
    exact ⟨_, List.getElem?_eq_getElem (by omega)⟩
  have okAt : ∀ (j : Nat) (out : Out), q.outs[j]? = some out → out.v.ok (ltB (N + j + 1)) = true ∧ hok (ltB (N + j + 1)) out.upd = true ∧ out.touch.Nodup := fun j out hj => by
    obtain ⟨o, ho⟩ := hlen hj
    obtain ⟨out', g1, ⟨-, hs1, hs2, g2⟩ | ⟨-, u1, u2, u3, -⟩⟩ := r4 j o ho
    · rw [hj] at g1; cases g1
      rcases oneOp_cases g2 with ⟨-, -, hok⟩ | ⟨-, -, rfl, -⟩
      · unfold okOut at hok
        simp only [Bool.and_eq_true] at hok
        exact ⟨hok.2.1, hok.2.2.1, ndB_nodup hok.2.2.2⟩
      · exact ⟨by simp [SV.ok], rfl, List.nodup_nil⟩
    · rw [hj] at g1; cases g1
      exact ⟨u3, by rw [u1]; rfl, by rw [u2]; exact List.nodup_nil⟩
  have ndU : ∀ (j : Nat) (out : Out), q.outs[j]? = some out → (names out.upd).Nodup := fun j out hj => (List.nodup_append.1 (okAt j out hj).2.2).1
  have ancLt : ∀ i x, i < ops.length → x ∈ anc.getD i [] → x < i := by
    intro i
    induction i using Nat.strongRecOn with
    | ind i ih =>
      intro x hi hx
      have ho : ops.toArray[i]? = some ops[i] := by simp [hi]
      obtain ⟨e, he, hb, h | h⟩ := C.up i _ ho x hx
      · rw [← h]; exact C.back i _ ho e he hb
      · have hl := C.back i _ ho e he hb
        have := ih e.on hl x (by omega) h
        omega
  let V : Nat → (Nat → (Nat → Rv)) → Value := fun j e => (((q.outs[j]?).map (fun x : Out => x.v)).getD (SV.val undef)).den (ext ε N e)
  let Ω : (Nat → Bool) → (Nat → (Nat → Rv)) → World → Prop := fun L e w => Mem (hden (ext ε N e) (heapAt q.outs L 0 σ.heap) ++ (RR L (ext ε N e) ++ R)) w
  have hV : ∀ (j : Nat) (out : Out) e, q.outs[j]? = some out → V j e = out.v.den (ext ε N e) := fun j out e hj => by
    show (((q.outs[j]?).map (fun x : Out => x.v)).getD (SV.val undef)).den (ext ε N e) = _
    rw [hj]; rfl
  have scDep : ∀ j (e e' : Nat → Nat → Rv), (∀ r, (r = j ∨ r ∈ anc.getD j []) → e r = e' r) → ∀ s k, scopeQ N anc j s k = true → ext ε N e s k = ext ε N e' s k := fun j e e' he s k0 hs => by
    unfold scopeQ at hs
    rw [Bool.or_eq_true, Bool.or_eq_true] at hs
    rcases hs with hs | hs | hs
    · rw [Nat.blt_eq] at hs; rw [ext_lo hs, ext_lo hs]
    · rw [Nat.eq_of_beq_eq_true hs, ext_hi, ext_hi]; exact congrFun (he j (.inl rfl)) k0
    · obtain ⟨k, hk, hb⟩ := List.any_eq_true.1 hs
      rw [Nat.eq_of_beq_eq_true hb, ext_hi, ext_hi]; exact congrFun (he k (.inr hk)) k0
  refine region_maskA nt V Ω (fun j => ε (N + j)) anc [] [] (oldOf ops) hr.size d3 d2 d4 d5 ?_ ?_ ?_ ?_
  · refine depsM_mk fun j hj e e' he => ?_
    rw [Nat.zero_add] at he ⊢
    obtain ⟨out, hout⟩ : ∃ out, q.outs[j]? = some out := ⟨_, List.getElem?_eq_getElem (by omega)⟩
    rw [hV j out e hout, hV j out e' hout]
    exact SV.den_congr (scDep j e e' he) _ (scAt j out hout).1
  · show Mem (hden (ext ε N fun j => ε (N + j)) (heapAt q.outs (fun _ => false) 0 σ.heap) ++ (RR (fun _ => false) (ext ε N fun j => ε (N + j)) ++ R)) w0.drew
    rw [hRR0, List.nil_append]
    have e1 : (ext ε N fun j => ε (N + j)) = ε := by
      funext s
      by_cases h : s < N
      · exact ext_lo h
      · obtain ⟨k, rfl⟩ : ∃ k, s = N + k := ⟨s - N, by omega⟩
        exact ext_hi
    have e2 : ∀ (l : List Out) k, heapAt l (fun _ => false) k σ.heap = σ.heap := by
      intro l
      induction l with
      | nil => intros; rfl
      | cons o l ih => intro k; exact ih (k + 1)
    rw [e1, e2]
    exact hr.mem.drew
  · refine runsM_mk fun j o ho L e w ρ hL hpre hsucc hdown hΩ hEv => ?_
    rw [Nat.zero_add] at hL hpre hsucc hEv ⊢
    obtain ⟨out, hout, hone⟩ := r4 j o ho
    rw [Nat.zero_add] at hone
    have hjl : j < ops.length := (List.getElem?_eq_some_iff.1 ho).1
    have hslot : ∀ t v, lkS (slF ops q.outs j σ.slots) t = some v → ρ (.tmp t) = v.den (ext ε N e) ∧ v.ok (ltB (N + j)) = true := fun t v hv => by
      rcases slF_at (l := ops) (outs := q.outs) (j := j) (t := t) (sl := σ.slots) r1 with ⟨k, ok, xk, h1, h2, h3, h4, h5⟩ | ⟨h1, h2⟩
      · rw [h5] at hv; cases hv
        have hold : oldOf ops j t = false := by
          unfold oldOf
          have : ((ops.take j).all fun o => o.dst != some t) = false := by
            rw [List.all_eq_false]
            exact ⟨ok, List.mem_of_getElem? (i := k) (by rw [List.getElem?_take_of_lt h1]; exact h2), by simp [h4]⟩
          rw [this]; rfl
        rw [hEv.d k ok t h2 h4 hold]
        exact ⟨hV k xk e h3, SV.ok_mono (ok_up (by omega)) _ (okAt k xk h3).1⟩
      · rw [h2] at hv
        have hs := hr.slots t v hv
        rw [hN] at hs
        have hc : (oldOf ops j t || ops.all fun o => o.dst != some t) = true := by
          by_cases hw : (ops.any fun o => o.dst == some t) = true
          · have : ((ops.take j).all fun o => o.dst != some t) = true := List.all_eq_true.2 fun o' ho' => by
              obtain ⟨k, hk⟩ := List.getElem?_of_mem ho'
              have hkj : k < j := by
                have := (List.getElem?_eq_some_iff.1 hk).1
                rw [List.length_take] at this; omega
              rw [List.getElem?_take_of_lt hkj] at hk
              simpa using h1 k o' hkj hk
            unfold oldOf; rw [this, hw]; rfl
          · have : (ops.all fun o => o.dst != some t) = true := List.all_eq_true.2 fun o' ho' => by
              have hn : ¬ (o'.dst == some t) = true := fun h => hw (List.any_eq_true.2 ⟨o', ho', h⟩)
              simpa using hn
            rw [this, Bool.or_true]
        rw [hEv.o t _ hc hs.1]
        exact ⟨SV.den_congr (fun s k hs => congrFun (ext_lo (ltB_iff.1 hs)).symm k) v hs.2, SV.ok_mono (ok_up (by omega)) v hs.2⟩
    have hev : EvOK (slotsEv (slF ops q.outs j σ.slots)) o ρ (ext ε N e) (N + j) := fun x _ v hv => by
      cases x with
      | tmp t => exact hslot t v hv
      | const c =>
        have hv : some (ofV c) = some v := hv
        cases hv
        exact ⟨by rw [ofV_den]; exact hEv.c c, ofV_ok _ c⟩
      | func f =>
        have hv : some (SV.fn (.func f) [] []) = some v := hv
        cases hv
        exact ⟨by rw [hEv.f f]; simp [SV.den, SV.dens], by simp [SV.ok, SV.oks]⟩
      | global g => cases hv
    have hwant : ∀ b, wantS ops (slF ops q.outs j σ.slots) o = some b → want (fun j => V j e) o.guard = b := fun b hb => by
      unfold wantS at hb
      unfold want
      split at hb
      · rename_i hg; rw [hg]; cases hb; rfl
      · rename_i g c hg
        rw [hg]
        split at hb <;> try (cases hb; done)
        rename_i og hog
        split at hb <;> try (cases hb; done)
        rename_i d hd
        have hgj : g < j := by
          have h5 := Array.all_eq_true_iff_forall_mem.1 d5 o (by simpa using List.mem_of_getElem? ho)
          rw [hg] at h5
          simp only [Bool.and_eq_true] at h5
          obtain ⟨e', he', h6⟩ := any_mem h5.2
          rw [Bool.and_eq_true] at h6
          have := C.back j o (by simpa using ho) e' he' h6.1
          rw [show e'.on = g by simpa using h6.2] at this
          exact this
        have hval : ∀ x, lkS (slF ops q.outs j σ.slots) d = some (.val (.bool x)) → V g e = .bool x := fun x hx => by
          rcases slF_at (l := ops) (outs := q.outs) (j := j) (t := d) (sl := σ.slots) r1 with ⟨k, ok, xk, h1, h2, h3, h4, h5⟩ | ⟨h1, -⟩
          · have hkg : k = g := C.once k ok g og d (by simpa using h2) (by simpa using hog) hd h4
            subst hkg
            rw [hV k xk e h3]
            rw [h5] at hx
            cases hx' : xk.v with
            | val v => rw [hx'] at hx; cases hx; simp [SV.den]
            | _ => rw [hx'] at hx; cases hx
          · exact absurd hd (h1 g og hgj hog)
        have hvalT : ∀ x, lkS (slF ops q.outs j σ.slots) d = some (.val (.tuple x)) → V g e = .tuple x := fun x hx => by
          rcases slF_at (l := ops) (outs := q.outs) (j := j) (t := d) (sl := σ.slots) r1 with ⟨k, ok, xk, h1, h2, h3, h4, h5⟩ | ⟨h1, -⟩
          · have hkg : k = g := C.once k ok g og d (by simpa using h2) (by simpa using hog) hd h4
            subst hkg
            rw [hV k xk e h3]
            rw [h5] at hx
            cases hx' : xk.v with
            | val v => rw [hx'] at hx; cases hx; simp [SV.den]
            | _ => rw [hx'] at hx; cases hx
          · exact absurd hd (h1 g og hgj hog)
        split at hb <;> try (cases hb; done)
        · rename_i hl; cases hb; simp only [hval _ hl]; cases b <;> rfl
        · rename_i hl; cases hb; simp only [hval _ hl]; cases c <;> rfl
        · rename_i vs hl; cases hb; simp only [hvalT _ hl]
    have hT : out.touch.Nodup := (okAt j out hout).2.2
    have hget1 : ∀ n ∈ out.touch, hget (heapAt q.outs L 0 σ.heap) n = hget (heapAt q.outs (fun x => Nat.blt x j) 0 σ.heap) n := fun n hn => by
      refine heapAt_congr rfl fun k xk hk hnk => ?_
      rw [Nat.zero_add]
      by_cases hkj : k = j
      · subst hkj
        rw [hL]
        symm
        cases hb : Nat.blt k k with
        | false => rfl
        | true => rw [Nat.blt_eq] at hb; omega
      · have hkl : k < ops.length := by have := (List.getElem?_eq_some_iff.1 hk).1; omega
        rcases inAt k j xk out hkj hk hout with h | h | h
        · rw [hpre k h]; symm; rw [Nat.blt_eq]; exact ancLt j k hjl h
        · rw [hsucc k hkl h]
          symm
          have := ancLt k j hkl h
          cases hb : Nat.blt k j with
          | false => rfl
          | true => rw [Nat.blt_eq] at hb; omega
        · exact absurd hn (h.1 n hnk)
    have hndL : (names (heapAt q.outs L 0 σ.heap)).Nodup := heapAt_nodup hr.nd ndU
    have hndS : (names (heapAt q.outs (setL L j) 0 σ.heap)).Nodup := heapAt_nodup hr.nd ndU
    have hstep : ∀ n, hget (hput (heapAt q.outs L 0 σ.heap) out.upd) n = hget (heapAt q.outs (setL L j) 0 σ.heap) n := fun n => by
      rw [hget_put]
      by_cases hn : n ∈ names out.upd
      · rw [if_pos hn]
        symm
        refine heapAt_last hout hn (by rw [Nat.zero_add]; unfold setL; rw [Nat.beq_refl]; rfl) fun k xk hjk hk hnk => ?_
        rw [Nat.zero_add]
        have hkl : k < ops.length := by have := (List.getElem?_eq_some_iff.1 hk).1; omega
        have hs : setL L j k = L k := by
          unfold setL
          cases hb : Nat.beq k j with
          | false => rfl
          | true => have := Nat.eq_of_beq_eq_true hb; omega
        rw [hs]
        rcases inAt j k out xk (by omega) hout hk with h | h | h
        · exact hsucc k hkl h
        · have := ancLt j k hjl h; omega
        · exact absurd (List.mem_append_left _ hnk) (h.1 n hn)
      · rw [if_neg hn]
        refine heapAt_congr rfl fun k xk hk hnk => ?_
        rw [Nat.zero_add]
        unfold setL
        cases hb : Nat.beq k j with
        | false => rfl
        | true =>
          have := Nat.eq_of_beq_eq_true hb
          subst this
          rw [hout] at hk; cases hk
          exact absurd hnk hn
    have hscL : ∀ x, hden (ext ε N e) (heapAt q.outs L 0 σ.heap) = hden (eset (ext ε N e) (N + j) x) (heapAt q.outs L 0 σ.heap) ∧ ∀ T, hden (ext ε N e) (hdels (heapAt q.outs L 0 σ.heap) T) = hden (eset (ext ε N e) (N + j) x) (hdels (heapAt q.outs L 0 σ.heap) T) := fun x => by
      have hp : hok (fun s _ => !Nat.beq s (N + j)) (heapAt q.outs L 0 σ.heap) = true := by
        refine heapAt_ok (hok_mono (fun s k' hs => ?_) hr.sc) fun k xk hk hLk => hok_mono (fun s k' hs => ?_) (scAt k xk hk).2
        · rw [hN] at hs
          have := ltB_iff.1 hs
          cases hb : Nat.beq s (N + j) with
          | false => rfl
          | true => have := Nat.eq_of_beq_eq_true hb; omega
        · rw [Nat.zero_add] at hLk
          have hkl : k < ops.length := by have := (List.getElem?_eq_some_iff.1 hk).1; omega
          cases hb : Nat.beq s (N + j) with
          | false => rfl
          | true =>
            have := Nat.eq_of_beq_eq_true hb
            subst this
            unfold scopeQ at hs
            rw [Bool.or_eq_true, Bool.or_eq_true] at hs
            rcases hs with hs | hs | hs
            · rw [Nat.blt_eq] at hs; omega
            · have := Nat.eq_of_beq_eq_true hs
              have : j = k := by omega
              subst this
              rw [hL] at hLk; cases hLk
            · obtain ⟨m, hm, hb⟩ := List.any_eq_true.1 hs
              have := Nat.eq_of_beq_eq_true hb
              have : j = m := by omega
              subst this
              have := hdown k hkl hLk j hm
              rw [hL] at this; cases this
      have hne : ∀ s k, (!Nat.beq s (N + j)) = true → ext ε N e s k = eset (ext ε N e) (N + j) x s k := fun s k hs => (eset_ne' fun h => by rw [h, Nat.beq_refl] at hs; cases hs).symm
      exact ⟨hden_congr hne hp, fun T => hden_congr hne (hok_dels hp)⟩
    have hRx : sp j = false → ∀ x, RR (setL L j) (ext ε N (updE e j x)) = RR L (ext ε N e) := fun hspj x => by
      rw [ext_upd]
      exact hRR j hjl hspj L (ext ε N e) x hL hdown
    rcases hone with ⟨hspj, hs1, hs2, hone⟩ | ⟨hspj, u1, u2, u3, u4⟩
    case inr =>
      have hwt : want (fun j => V j e) o.guard = true := by rw [u4]; rfl
      rw [if_pos hwt]
      have hM0 : Mem (RR L (ext ε N e) ++ (hden (ext ε N e) (heapAt q.outs L 0 σ.heap) ++ R)) w := mem_perm (by
        rw [← List.append_assoc, ← List.append_assoc]
        exact List.Perm.append_right R List.perm_append_comm) hΩ
      refine res_mono (fun u w' ha => ?_) (hsp j o out ho hout hspj L (ext ε N e) w ρ _ hL hpre hdown hev hM0)
      obtain ⟨x, rfl, hm⟩ := ha
      refine ⟨x, by rw [hV j out _ hout, ext_upd], ?_⟩
      show Mem (hden (ext ε N (updE e j x)) (heapAt q.outs (setL L j) 0 σ.heap) ++ (RR (setL L j) (ext ε N (updE e j x)) ++ R)) w'
      rw [ext_upd]
      have hm2 : Mem (hden (eset (ext ε N e) (N + j) x) (heapAt q.outs L 0 σ.heap) ++ (RR (setL L j) (eset (ext ε N e) (N + j) x) ++ R)) w' := by
        rw [← (hscL x).1]
        exact mem_perm (by
          rw [← List.append_assoc, ← List.append_assoc]
          exact List.Perm.append_right R List.perm_append_comm) hm
      exact mem_ext hndL hndS (fun n _ => by have := hstep n; rwa [u1, hget_put, if_neg (by simp [names])] at this) hm2
    rcases oneOp_cases hone with ⟨hw, hop, hok⟩ | ⟨hw, -, hout', -⟩
    · rw [hwant _ hw, if_pos rfl]
      have hk1 : ChkOK out.chk := fun c hc => hk c (List.mem_flatMap.2 ⟨out, List.mem_of_getElem? hout, hc⟩)
      have hsc : ScOK (N + j) (heapAt q.outs (fun x => Nat.blt x j) 0 σ.heap) := by
        refine heapAt_ok (hok_mono (ok_up (by omega)) hr.sc) fun k xk hk hLk => hok_mono (ok_up ?_) (okAt k xk hk).2.1
        rw [Nat.zero_add, Nat.blt_eq] at hLk
        omega
      have hM := (focus hT hndL).1 hΩ
      rw [tden_congr hget1] at hM
      have hs := sOp_ok hcal hop hev hk1 hsc _ w hM
      refine res_mono (fun u w' ha => ?_) hs
      obtain ⟨x, rfl, hm⟩ := ha
      refine ⟨x, ?_, ?_⟩
      · rw [hV j out _ hout, ext_upd]
      · show Mem (hden (ext ε N (updE e j x)) (heapAt q.outs (setL L j) 0 σ.heap) ++ (RR (setL L j) (ext ε N (updE e j x)) ++ R)) w'
        rw [hRx hspj, ext_upd]
        have hrd : tden (eset (ext ε N e) (N + j) x) (heapAt q.outs (fun x => Nat.blt x j) 0 σ.heap) out.rd = tden (eset (ext ε N e) (N + j) x) (heapAt q.outs L 0 σ.heap) out.rd := tden_congr fun n hn => (hget1 n (List.mem_append_right _ hn)).symm
        rw [hrd, (hscL x).2] at hm
        have h1 := unfocus hndL hT hm
        exact mem_ext (hput_nodup hndL (ndU j out hout)) hndS (fun n _ => hstep n) h1
    · subst hout'
      rw [hwant _ hw, if_neg (by decide)]
      refine ⟨e j, ?_, ?_⟩
      · rw [hV j _ _ hout]; simp [SV.den]
      · have e1 : updE e j (e j) = e := by
          funext s; unfold updE
          cases hb : Nat.beq s j with
          | true => rw [Nat.eq_of_beq_eq_true hb]; rfl
          | false => rfl
        show Mem (hden (ext ε N (updE e j (e j))) (heapAt q.outs (setL L j) 0 σ.heap) ++ (RR (setL L j) (ext ε N (updE e j (e j))) ++ R)) w
        rw [hRx hspj, e1]
        exact mem_ext hndL hndS (fun n _ => by have := hstep n; rwa [hget_put, if_neg (by simp [names])] at this) hΩ
  · intro e a' w' hz hdf hgot hold hΩ
    refine hQ (ext ε N e) a' w' ⟨hz, by rw [hdf]; exact hr.defers, fun d v hv => ?_, ?_, ?_, ?_, fun t ht => by rw [ext_lo (by omega)]; exact hr.e0 t ht, by show lo ≤ N + ops.length; omega⟩
    · have hv : lkS q.slots d = some v := hv
      rw [r2] at hv
      rcases slF_at (l := ops) (outs := q.outs) (j := ops.length) (t := d) (sl := σ.slots) r1 with ⟨k, ok, xk, h1, h2, h3, h4, h5⟩ | ⟨h1, h2⟩
      · rw [h5] at hv; cases hv
        exact ⟨by rw [hgot k ok d h2 h4, hV k xk e h3], SV.ok_mono (ok_up (by show N + k + 1 ≤ N + ops.length; omega)) _ (okAt k xk h3).1⟩
      · rw [h2] at hv
        have hs := hr.slots d v hv
        rw [hN] at hs
        refine ⟨?_, SV.ok_mono (ok_up (by show N ≤ N + ops.length; omega)) v hs.2⟩
        rw [hold d (List.all_eq_true.2 fun o ho => by
          obtain ⟨k, hk⟩ := List.getElem?_of_mem ho
          simpa using h1 k o ((List.getElem?_eq_some_iff.1 hk).1) hk), hs.1]
        exact congrArg some (SV.den_congr (fun s k hs => congrFun (ext_lo (ltB_iff.1 hs)).symm k) v hs.2)
    · show Mem (hden (ext ε N e) q.heap ++ (RR (fun j => Nat.blt j ops.length) (ext ε N e) ++ R)) w'
      rw [r3, Nat.zero_add]
      exact hΩ
    · show (names q.heap).Nodup
      rw [r3]; exact heapAt_nodup hr.nd ndU
    · show hok (ltB (N + ops.length)) q.heap = true
      rw [r3]
      refine heapAt_ok (hok_mono (ok_up (by omega)) hr.sc) fun k xk hk hLk => hok_mono (ok_up ?_) (okAt k xk hk).2.1
      have := (List.getElem?_eq_some_iff.1 hk).1
      omega
end
end Go.Sx
end
