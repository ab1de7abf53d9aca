/- BkC1, BkC2, BkC3, BkC4, Sm0, EaW4. -/
import Derived.Test.YtlekbdpdlalhbaaGreatM9546967
import Derived.Shelf.SlMaps.Clone
import Derived.Test.YtlekbdpdlalhbaaGreatM967e4a0
import Derived.Test.YtlekbdpdlalhbaaGreatHo4
import Derived.Test.YtlekbdpdlalhbaaGreatMbfb25a9
section
namespace Go.Proofs.YtlekbdpdlalhbaaGreat
set_option maxRecDepth 100000
open Go.RowKit Go.Lib Go.Tk Go.Shelf Go.Vc Go.Sx Go.Maps
set_option linter.unusedVariables false
set_option linter.unusedSimpArgs false
def CloneOF : Nat := 64
def CloneHF : Nat := 65
set_option maxHeartbeats 2000000 in
theorem cloneO_any (b : Nat) (es : Array MapEntry) (clock : Nat) (w : World) (hb : w.heap[b]? = some (.map es clock)) :
    Calls Tryz.prog CloneOF #[.map (some b)] w fun e w' => e = .returned (.map (some w.heap.size)) ∧ w' = w.alloc (.map es clock) := by
  unfold CloneOF
  have hq := fun w => run_eql_map_nil_sl (P := Tryz.prog) w 134 _ _ (some b) Tryz.underlying134
  go_enter Tryz.func64, Tryz.ntmps64
  go_wp2
  rw [run_callFunc_extern Tryz.func134 (by kernel_rfl) (by kernel_rfl) (by kernel_rfl) (e := Extern.MapsClone.clone) (by kernel_rfl), run_maps_clone_sl w 134 hb]
  simp only [Result.andThen]
  rw [Oper.upon_value]
  go_wp2
  rw [run_typeAssert_map_sl _ 134 _ _ _ _ Tryz.underlying134]
  simp only [Result.andThen]
  rw [Oper.upon_value]
  go_wp2
  go_ret
  exact ⟨rfl, rfl⟩
set_option maxHeartbeats 2000000 in
theorem cloneH_any (b : Nat) (es : Array MapEntry) (clock : Nat) (w : World) (hb : w.heap[b]? = some (.map es clock)) :
    Calls Tryz.prog CloneHF #[.map (some b)] w fun e w' => e = .returned (.map (some w.heap.size)) ∧ w' = w.alloc (.map es clock) := by
  unfold CloneHF
  have hq := fun w => run_eql_map_nil_sl (P := Tryz.prog) w 135 _ _ (some b) Tryz.underlying135
  go_enter Tryz.func65, Tryz.ntmps65
  go_wp2
  rw [run_callFunc_extern Tryz.func134 (by kernel_rfl) (by kernel_rfl) (by kernel_rfl) (e := Extern.MapsClone.clone) (by kernel_rfl), run_maps_clone_sl w 135 hb]
  simp only [Result.andThen]
  rw [Oper.upon_value]
  go_wp2
  rw [run_typeAssert_map_sl _ 135 _ _ _ _ Tryz.underlying135]
  simp only [Result.andThen]
  rw [Oper.upon_value]
  go_wp2
  go_ret
  exact ⟨rfl, rfl⟩
end Go.Proofs.YtlekbdpdlalhbaaGreat
end
section
namespace Go.Proofs.YtlekbdpdlalhbaaGreat
set_option maxRecDepth 100000
open Go.RowKit Go.Lib Go.Tk Go.Shelf Go.Vc Go.Sx Go.Maps
set_option linter.unusedVariables false
set_option linter.unusedSimpArgs false
/-- the rows of documents -/
def rowsC (L : List (DocV × DocA)) : Chunk where
  at_ S w := ∀ p ∈ L, DocIn S w p
  stable hk hi h := fun p hp => (h p hp).stays hk hi
theorem docs_split {L : List (DocV × DocA)} {b : Nat} {v : Value} {R : List Chunk} {w : World} (h : Mem (docsF L b v :: R) w) : Mem (mapC tidK b (ents docW (docKV L)) :: rowsC L :: R) w := by
  have h1 : Mem (allC [mapC tidK b (ents docW (docKV L)), rowsC L] :: R) w := h.weaken fun S hS => by
    obtain ⟨⟨hb, hm⟩, Sd, g1, g2, -⟩ := hS
    refine ⟨fun i k => match i with | 0 => k = b | _ => Sd k, fun i k hi hk => ?_, fun i c hc => ?_, fun i j k hi hj hij hki hkj => ?_⟩
    · match i, hk with
      | 0, hk => exact hk ▸ hb
      | i + 1, hk => exact (g1 k hk).1
    · match i, hc with
      | 0, hc => cases hc; exact ⟨rfl, hm⟩
      | 1, hc => cases hc; exact g2
      | i + 2, hc => cases hc
    · match i, j, hij, hki, hkj with
      | 0, 0, hij, _, _ => exact hij rfl
      | 0, j + 1, _, hki, hkj => exact (g1 k hkj).2 hki
      | i + 1, 0, _, hki, hkj => exact (g1 k hki).2 hkj
      | i + 1, j + 1, hij, _, _ => simp at hi hj; exact hij (by omega)
  exact h1.all
theorem docs_shut {L : List (DocV × DocA)} {b : Nat} {v : Value} {R : List Chunk} {w : World} (h : Mem (mapC tidK b (ents docW (docKV L)) :: rowsC L :: R) w) : Mem (docsF L b v :: R) w := by
  refine mem_join (l := [mapC tidK b (ents docW (docKV L)), rowsC L]) h fun S hS => ?_
  obtain ⟨F, g1, g2, g3⟩ := hS
  have m0 := g2 0 _ rfl
  have m1 := g2 1 _ rfl
  refine ⟨⟨g1 0 b (by simp) m0.1, m0.2⟩, F 1, fun k hk => ⟨g1 1 k (by simp) hk, fun e => ?_⟩, m1, fun p hp => by cases hp⟩
  subst e
  exact g3 1 0 k (by simp) (by simp) (by decide) hk m0.1
end Go.Proofs.YtlekbdpdlalhbaaGreat
end
section
namespace Go.Proofs.YtlekbdpdlalhbaaGreat
set_option maxRecDepth 100000
open Go.RowKit Go.Lib Go.Tk Go.Shelf Go.Vc Go.Sx Go.Maps
set_option linter.unusedVariables false
set_option linter.unusedSimpArgs false
theorem copied_rows (L : List (DocV × DocA)) (p : DocV × DocA) (hp : p ∈ L) (sm : DocSmall p.1) : CallOK Tryz.prog CopiedF [.agg (docSA p.1 p.2)] [((0, 5), .fam fun _ _ => rowsC L)] [] (.agg (docS p.1 (.raw 1 0) (.raw 1 1) (.raw 1 2))) (docR p.1) := by
  refine CallOK.mv 5 ?_ rfl rfl rfl
  intro ε R w hM
  have hM' : Mem (rowsC L :: R) w := hM
  have ok : SlOk p.2.la p.1.s.legs.length p.2.lc ∧ SlOk p.2.ta p.1.s.taxes.length p.2.tc ∧ SlOk p.2.va p.1.vals.length p.2.vc := hM'.of 0 rfl fun S hS => ⟨(hS p hp).okl, (hS p hp).okt, (hS p hp).okv⟩
  exact copied_w (fun _ _ => rowsC L) (fun b v S w h => (h p hp).legs) (fun b v S w h => (h p hp).taxes) (fun b v S w h => (h p hp).vals) ok.1 ok.2.1 ok.2.2 sm ε R w hM
theorem putt_new {κ α : Type} [DecidableEq κ] : ∀ (l : List (κ × α)) (k : κ) (a : α), (∀ p ∈ l, p.1 ≠ k) → putt l k a = l ++ [(k, a)]
  | [], _, _, _ => rfl
  | p :: l, k, a, h => by
    show (if _ then _ else _) = _
    rw [if_neg (h p List.mem_cons_self), putt_new l k a fun q hq => h q (List.mem_cons_of_mem _ hq)]
    rfl
/-- a new document whose lists lie in rows of one's own is set -/
theorem upd_docsN (ds : List DocV) (d : DocV) (ht : TidOk d.t) (hn : ∀ x ∈ ds, x.t ≠ d.t) :
    OpG Tryz.prog (isUp DT) upXYZ [.map 0 0, .agg (tidS d.t), .agg (docS d (.raw 0 1) (.raw 0 2) (.raw 0 3))] [] [((0, 0), .fam (docsX ds)), ((0, 1), legR d.s.legs.length d.s.legs), ((0, 2), taxR d.s.taxes.length d.s.taxes), ((0, 3), i64R d.vals.length d.vals)] (.val undef) [((0, 0), .fam (docsX (ds ++ [d])))] := by
  intro o ho
  refine ⟨(upd_docs [] [(d, docA0)] (d, docA0) ht (List.Perm.refl _) o ho).1, fun ε ρ R w hx hM => ?_⟩
  have hM : Mem (docsX ds (ε 0 0).1 (ε 0 0).2 :: rowC 31 3 (asSl (ε 0 1).2) d.s.legs.length (cellsL encLeg d.s.legs) :: rowC 214 2 (asSl (ε 0 2).2) d.s.taxes.length (cellsL encTax d.s.taxes) :: rowC 2 1 (asSl (ε 0 3).2) d.vals.length (d.vals.map (.int .i64)) :: R) w := hM
  obtain ⟨la, lc, hvl, okl⟩ := row_sl (hM.owns 1 rfl)
  obtain ⟨ta, tc, hvt, okt⟩ := row_sl (hM.owns 2 rfl)
  obtain ⟨va, vc, hvv, okv⟩ := row_sl (hM.owns 3 rfl)
  rw [hvl, hvt, hvv] at hM
  obtain ⟨⟨L, hL⟩, hM⟩ := Mem.ex hM
  have hM2 := docs_join (p := (d, ⟨la, lc, ta, tc, va, vc⟩)) rfl rfl rfl hM
  have hp : (putt (docKV L) d.t (d, (⟨la, lc, ta, tc, va, vc⟩ : DocA))).Perm (docKV (L ++ [(d, ⟨la, lc, ta, tc, va, vc⟩)])) := by
    rw [putt_new _ _ _ fun q hq => by
      obtain ⟨y, hy, rfl⟩ := List.mem_map.1 hq
      exact hn y.1 (by rw [← hL]; exact List.mem_map_of_mem hy)]
    unfold docKV
    rw [List.map_append]
    exact List.Perm.refl _
  have hA : SV.dens ε [.map 0 0, .agg (tidS d.t), .agg (docS d (.raw 0 1) (.raw 0 2) (.raw 0 3))] = SV.dens ε [.map 0 0, .agg (tidS d.t), .agg (docSA d ⟨la, lc, ta, tc, va, vc⟩)] := by
    simp only [SV.dens, SV.den, docS, docSA, hvl, hvt, hvv]
  rw [hA] at hx
  have := (upd_docs L (L ++ [(d, ⟨la, lc, ta, tc, va, vc⟩)]) (d, ⟨la, lc, ta, tc, va, vc⟩) ht hp o ho).2 ε ρ R w hx hM2
  exact res_mono (fun u w' ⟨x, h1, h2⟩ => ⟨x, h1, by
    have h2 : Mem (docsF (L ++ [(d, ⟨la, lc, ta, tc, va, vc⟩)]) (eset ε 1 x 0 0).1 (eset ε 1 x 0 0).2 :: R) w' := h2
    have h3 : Mem (docsX (ds ++ [d]) (eset ε 1 x 0 0).1 (eset ε 1 x 0 0).2 :: R) w' := Mem.in_ex ⟨L ++ [(d, ⟨la, lc, ta, tc, va, vc⟩)], by rw [List.map_append, hL]; rfl⟩ h2
    exact h3⟩) this
end Go.Proofs.YtlekbdpdlalhbaaGreat
end
section
namespace Go.Proofs.YtlekbdpdlalhbaaGreat
set_option maxRecDepth 100000
open Go.RowKit Go.Lib Go.Tk Go.Shelf Go.Vc Go.Sx Go.Maps
set_option linter.unusedVariables false
set_option linter.unusedSimpArgs false
theorem clone_v {f : Nat} {kt : TypeId} {κ α : Type} {K : KeyKind Tryz.prog kt κ} {enc : α → Value} {L : List (κ × α)} (k m : Nat)
    (hf : ∀ (b : Nat) (es : Array MapEntry) (clock : Nat) (w : World), w.heap[b]? = some (.map es clock) → Calls Tryz.prog f #[.map (some b)] w fun e w' => e = .returned (.map (some w.heap.size)) ∧ w' = w.alloc (.map es clock)) :
    CallOK Tryz.prog f [.val (.map (some m))] [((0, k), .fam fun _ _ => mapC K m (ents enc L))] [] (.map 1 0) [((1, 0), .fam (mapT K enc L))] := by
  intro ε R w hM
  have hM : Mem (mapC K m (ents enc L) :: R) w := hM
  obtain ⟨es, clock, hb, h2⟩ := hM.map 0 rfl
  refine (hf m es clock w hb).mono ?_
  rintro e w' ⟨rfl, rfl⟩
  have h1 : Mem (mapC K w.heap.size (ents enc L) :: mapC K m (ents enc L) :: R) (w.alloc (.map es clock)) := hM.fresh (below_alloc _ _) (fun k => k = w.heap.size) ⟨rfl, es, clock, show (w.heap.push _)[w.heap.size]? = _ from Array.getElem?_push_size, h2⟩ (fun k hk => by subst hk; exact ⟨Nat.le_refl _, by simp⟩)
  have h1 := h1.front 1 rfl
  have e1 : ∀ x : Nat → Nat × Value, eset ε 1 x 1 = x := fun x => by simp [eset]
  refine ⟨fun _ => (w.heap.size, undef), by simp only [SV.den]; rw [e1], ?_⟩
  show Mem (mapC K m (ents enc L) :: mapC K (eset ε 1 _ 1 0).1 (ents enc L) :: R) _
  rw [e1]
  exact h1
theorem perm_lift {α β : Type} {f : α → β} : ∀ (r : List β) (l : List α), r.Perm (l.map f) → ∃ l', l'.map f = r ∧ l.Perm l'
  | [], l, h => by
    have : l = [] := List.map_eq_nil_iff.1 (List.nil_perm.1 h)
    subst this
    exact ⟨[], rfl, List.Perm.refl _⟩
  | x :: r, l, h => by
    obtain ⟨p, l', hp, hl, hr⟩ := perm_head' h
    obtain ⟨l2, h2, h3⟩ := perm_lift r l' hr
    exact ⟨p :: l2, by rw [List.map_cons, hp, h2], hl.trans (h3.cons p)⟩
theorem docsX_perm {ds ds' : List DocV} (hp : ds'.Perm ds) {b : Nat} {v : Value} {S : Nat → Prop} {w : World} (h : (docsX ds b v).at_ S w) : (docsX ds' b v).at_ S w := by
  obtain ⟨⟨L, hL⟩, h⟩ := h
  obtain ⟨L', h1, h2⟩ := perm_lift ds' L (by rw [hL]; exact hp)
  refine ⟨⟨L', h1⟩, ⟨h.1.1, h.1.2.perm ?_⟩, ?_⟩
  · unfold ents docKV
    exact (h2.map _).map _
  · obtain ⟨Sd, g1, g2, -⟩ := h.2
    exact ⟨Sd, g1, fun p hp => g2 p (h2.mem_iff.2 hp), fun p hp => by cases hp⟩
def CloneBF : Nat := 17
abbrev DocL (B : BookV) := { L : List (DocV × DocA) // L.map (·.1) = B.docs }
def oldB (B : BookV) (a : BkA) : SC := .box none [.val (.int .u8 B.self), .val (.int .i64 B.n), .val (.map (some a.d)), .val (.map (some a.o)), .val (.map (some a.h))]
def oldH (B : BookV) (a : BkA) : Heap := [((0, 0), oldB B a), ((0, 2), .fam fun _ _ => mapC kidK a.o (ents ownW B.owns)), ((0, 3), .fam fun _ _ => mapC kidK a.h (ents heldW B.helds))]
def newB (B : BookV) : Heap := [((1, 0), .box none [.val (.int .u8 B.self), .val (.int .i64 B.n), .map 1 1, .map 1 2, .map 1 3]), ((1, 2), ownsF B.owns), ((1, 3), heldsF B.helds)]
theorem clone_b (B : BookV) (hk : ∀ d ∈ B.docs, TidOk d.t ∧ DocSmall d) (hn : (B.docs.map (·.t)).Nodup) : CallOK Tryz.prog CloneBF [.ptr 0 0 0] [] (bkC B) (.ptr 1 0 0) (bkC B ++ [((1, 0), .fam (bookF B))]) := by
  refine callOK_intro (by kernel_rfl) fun eb R => ?_
  refine go_open (X := BkA × DocL B) (fun x => oldH B x.1 ++ [((0, 1), .fam fun _ _ => mapC tidK x.1.d (ents docW (docKV x.2.1))), ((0, 5), .fam fun _ _ => rowsC x.2.1)])
    (fun ε w hM => by
      obtain ⟨a, h⟩ := Mem.ex hM
      have h2 := h.all.front 1 rfl
      obtain ⟨L, h3⟩ := Mem.ex h2
      have h4 := docs_split h3
      exact ⟨(a, L), ((h4.front 4 rfl).front 4 rfl).front 4 rfl⟩) (fun x => by kernel_rfl) fun x => ?_
  obtain ⟨a, L, hL⟩ := x
  have c1 := clone_v (K := kidK) (enc := ownW) (L := B.owns) 2 a.o cloneO_any
  have c2 := clone_v (K := kidK) (enc := heldW) (L := B.helds) 3 a.h cloneH_any
  refine leaf_cut (rgK Tryz.prog CloneBF 4 []) [(0, .ptr 0 0 0), (3, .ptr 1 0 0)] (oldH B a ++ [((0, 1), .fam fun _ _ => mapC tidK a.d (ents docW (docKV L))), ((0, 5), .fam fun _ _ => rowsC L)] ++ newB B ++ [((1, 1), .obj [] 0)]) calNone false 400 [hC 3 13 c1, hC 3 18 c2, .stop 4] calNone_ok (by kernel_rfl) ?_
  refine go_open (X := Unit) (fun _ => [((1, 1), .fam (docsX []))] ++ (oldH B a ++ [((0, 1), .fam fun _ _ => mapC tidK a.d (ents docW (docKV L))), ((0, 5), .fam fun _ _ => rowsC L)] ++ newB B)) (fun ε w hM => by
      have h1 : Mem (docsX [] (ε 1 1).1 (ε 1 1).2 :: (hden ε (oldH B a ++ [((0, 1), .fam fun _ _ => mapC tidK a.d (ents docW (docKV L))), ((0, 5), .fam fun _ _ => rowsC L)] ++ newB B) ++ R)) w := (hM.front 8 rfl).weaken (c' := docsX [] (ε 1 1).1 (ε 1 1).2) (fun S hS => obj_docs hS)
      exact ⟨(), h1⟩) (fun x => by kernel_rfl) fun _ => ?_
  have r1 := rangeG (P := Tryz.prog) (K := tidK) (t := DT) (m := a.d) (j := 1) (L := ents docW (docKV L)) Tryz.underlying133
  have d1 := next_doneG (P := Tryz.prog) (K := tidK) (m := a.d) (L := ents docW (docKV L))
  refine go_loop (X := { x : List (Tid × (DocV × DocA)) × List (Tid × (DocV × DocA)) // (docKV L).Perm (x.1 ++ x.2) }) 0 [] (fun x => ([(0, .ptr 0 0 0), (3, .ptr 1 0 0), (33, .ptr 1 9 0)],
      oldH B a ++ [((0, 5), .fam fun _ _ => rowsC L), ((1, 9), .fam fun r _ => rngC tidK r a.d (ents docW (docKV L)) (ents docW x.1.2))] ++ newB B ++ [((1, 1), .fam (docsX (x.1.1.map (·.2.1))))]))
    (fun x => x.1.2.length) ⟨([], docKV L), List.Perm.refl _⟩ calNone false 400 [hG 4 4 r1] calNone_ok (by kernel_rfl) ?_
  rintro ⟨⟨done, left⟩, hd⟩ J hJ
  cases left with
  | cons x l =>
    have m1 := next_moreG (P := Tryz.prog) (K := tidK) (m := a.d) (L := ents docW (docKV L)) (left := ents docW (x :: l)) (by simp [ents])
    refine leaf_cut (rgK Tryz.prog CloneBF 6 [J]) [(0, .ptr 0 0 0), (3, .ptr 1 0 0), (33, .ptr 1 9 0)]
      ([((1, 9), .fam fun r _ => exC fun (y : (Tid × Value) × List (Tid × Value)) => curC tidK r a.d (ents docW (docKV L)) (ents docW (x :: l)) y.1 y.2)] ++ (oldH B a ++ [((0, 5), .fam fun _ _ => rowsC L)] ++ newB B ++ [((1, 1), .fam (docsX (done.map (·.2.1))))]))
      calNone false 400 [hG 5 0 m1, .stop 6] calNone_ok (by kernel_rfl) ?_
    refine go_open (X := { y : (Tid × (DocV × DocA)) × List (Tid × (DocV × DocA)) // (x :: l).Perm (y.1 :: y.2) }) (fun y => [((1, 9), .fam fun r _ => curC tidK r a.d (ents docW (docKV L)) (ents docW (x :: l)) (y.1.1.1, docW y.1.1.2) (ents docW y.1.2))] ++ (oldH B a ++ [((0, 5), .fam fun _ _ => rowsC L)] ++ newB B ++ [((1, 1), .fam (docsX (done.map (·.2.1))))]))
      (fun ε w hM => by obtain ⟨y, h⟩ := cur_typed hM; exact ⟨y, h⟩) (fun y => by kernel_rfl) ?_
    rintro ⟨⟨⟨k, p⟩, l'⟩, hp⟩
    have hd' : (docKV L).Perm ((done ++ [(k, p)]) ++ l') := by
      rw [List.append_assoc]
      exact hd.trans (List.Perm.append_left done hp)
    have hlt : l'.length < (x :: l).length := by have := hp.length_eq; simp only [List.length_cons] at this ⊢; omega
    have hmem : (k, p) ∈ docKV L := hd'.mem_iff.2 (by simp)
    obtain ⟨q, hq, hqe⟩ := List.mem_map.1 hmem
    injection hqe with e1 e2
    subst e2
    subst e1
    have hb : q.1 ∈ B.docs := by rw [← hL]; exact List.mem_map_of_mem hq
    have g1 := entryG (P := Tryz.prog) (K := tidK) (m := a.d) (L := ents docW (docKV L)) (left := ents docW (x :: l)) (left' := ents docW l') (p := (q.1.t, docW q)) (ks := .agg (tidS q.1.t)) (vs := .agg (docSA q.1 q.2)) (fun _ => rfl) (fun _ => rfl)
    have c3 := copied_rows L q hq (hk q.1 hb).2
    have hfresh : ∀ z ∈ done.map (·.2.1), z.t ≠ q.1.t := by
      have hnk : ((docKV L).map (·.1)).Nodup := by rw [docKV_map, hL]; exact hn
      have h5 := (hd'.map (·.1)).nodup_iff.1 hnk
      rw [List.map_append, List.map_append] at h5
      intro z hz
      obtain ⟨y, hy, rfl⟩ := List.mem_map.1 hz
      have hy2 : y ∈ docKV L := hd'.mem_iff.2 (List.mem_append_left _ (List.mem_append_left _ hy))
      obtain ⟨y', -, hye⟩ := List.mem_map.1 hy2
      intro e
      refine (List.nodup_append.1 (List.nodup_append.1 h5).1).2.2 y.1 (List.mem_map_of_mem hy) q.1.t (by simp) ?_
      rw [← hye] at e ⊢
      exact e
    have g2 := upd_docsN (done.map (·.2.1)) q.1 (hk q.1 hb).1 hfresh
    have ee : (done ++ [(q.1.t, q)]).map (·.2.1) = done.map (·.2.1) ++ [q.1] := by rw [List.map_append]; rfl
    rw [← ee] at g2
    exact leaf_round (lpK Tryz.prog CloneBF 0 []) false 400 [hG 6 0 g1, hC 7 6 c3, hG 7 7 g2] (hJ ⟨(done ++ [(q.1.t, q)], l'), hd'⟩ hlt) (by kernel_rfl)
  | nil =>
    rw [List.append_nil] at hd
    have hds : B.docs.Perm (done.map (·.2.1)) := by
      have := hd.map (·.2.1)
      unfold docKV at this
      rw [List.map_map] at this
      rw [← hL]
      exact this
    refine leaf_cut (rgK Tryz.prog CloneBF 8 []) [(3, .ptr 1 0 0)]
      (oldH B a ++ [((0, 5), .fam fun _ _ => rowsC L), ((1, 9), .fam fun r _ => rngC tidK r a.d (ents docW (docKV L)) [])] ++ newB B ++ [((1, 1), .fam (docsX (done.map (·.2.1))))])
      calNone false 400 [hG 5 0 d1, .stop 8] calNone_ok (by kernel_rfl) ?_
    refine go_open (X := Unit) (fun _ => [((0, 0), .fam (bookF B)), ((1, 0), .fam (bookF B))]) (fun ε w hM => ⟨(), by
      have hM : Mem (boxE none (ε 0 0).1 #[.int .u8 B.self, .int .i64 B.n, .map (some a.d), .map (some a.o), .map (some a.h)] :: mapC kidK a.o (ents ownW B.owns) :: mapC kidK a.h (ents heldW B.helds) :: rowsC L :: rngC tidK (ε 1 9).1 a.d (ents docW (docKV L)) [] :: boxE none (ε 1 0).1 #[.int .u8 B.self, .int .i64 B.n, .map (some (ε 1 1).1), .map (some (ε 1 2).1), .map (some (ε 1 3).1)] :: mapT kidK ownW B.owns (ε 1 2).1 (ε 1 2).2 :: mapT kidK heldW B.helds (ε 1 3).1 (ε 1 3).2 :: docsX (done.map (·.2.1)) (ε 1 1).1 (ε 1 1).2 :: R) w := hM
      have h1 := (hM.front 8 rfl).weaken (c' := docsX B.docs (ε 1 1).1 undef) fun S hS => docsX_perm hds hS
      have h2 := (h1.front 5 rfl).weaken (c' := mapC tidK a.d (ents docW (docKV L))) fun S hS => ⟨hS.2.1, hS.2.2.map⟩
      have h3 := docs_shut (v := undef) ((h2.front 5 rfl).front 1 rfl)
      have h4 : Mem (docsX B.docs a.d undef :: _) w := Mem.in_ex ⟨L, hL⟩ h3
      have h5 := (((h4.front 7 rfl).front 7 rfl).front 3 rfl).front 7 rfl
      have h6 := Mem.in_ex (f := fun y : BkA => allC [boxE none (ε 1 0).1 #[.int .u8 B.self, .int .i64 B.n, .map (some y.d), .map (some y.o), .map (some y.h)], docsX B.docs y.d undef, mapT kidK ownW B.owns y.o undef, mapT kidK heldW B.helds y.h undef]) ⟨(ε 1 1).1, (ε 1 2).1, (ε 1 3).1⟩ (Mem.in_all (l := [_, _, _, _]) h5)
      have h7 := (((h6.front 4 rfl).front 4 rfl).front 3 rfl).front 4 rfl
      exact Mem.in_ex (f := fun y : BkA => allC [boxE none (ε 0 0).1 #[.int .u8 B.self, .int .i64 B.n, .map (some y.d), .map (some y.o), .map (some y.h)], docsX B.docs y.d undef, mapT kidK ownW B.owns y.o undef, mapT kidK heldW B.helds y.h undef]) a (Mem.in_all (l := [_, _, _, _]) h7)⟩) (fun _ => by kernel_rfl) fun _ => ?_
    exact leaf_end calNone false 400 [] calNone_ok (by kernel_rfl)
end Go.Proofs.YtlekbdpdlalhbaaGreat
end
section
namespace Go.Proofs.YtlekbdpdlalhbaaGreat
set_option maxRecDepth 100000
open Go.RowKit Go.Lib Go.Tk Go.Shelf Go.Vc Go.Sx Go.Maps
set_option linter.unusedVariables false
set_option linter.unusedSimpArgs false

theorem len_val {kt : TypeId} {κ : Type} {K : KeyKind Tryz.prog kt κ} {m j n : Nat} {L : List (κ × Value)} (hn : L.length = n) :
    OpG Tryz.prog (isLenM Tryz.prog) lenX [.val (.map (some m))] [((0, j), .fam fun _ _ => mapC K m L)] [] (.val (.int .i64 (n : Int))) [] := by
  intro o ho
  unfold isLenM at ho
  split at ho <;> try (cases ho; done)
  rename_i c hop
  split at ho <;> try (cases ho; done)
  rename_i hc
  split at ho <;> try (cases ho; done)
  rename_i x t' ha ht
  split at ho <;> try (cases ho; done)
  rename_i k' e' hT
  have hx' : lenX o = [x] := by unfold lenX; rw [hop]; exact ha
  rw [hx']
  refine ⟨fun q hq => by rw [hop]; simp [Op.operands, Call.operands, hc]; have := arr_one ha; rw [this]; simpa using hq, fun ε ρ R w hx hM => ?_⟩
  simp only [List.map_cons, List.map_nil, SV.dens, SV.den, List.cons.injEq, and_true] at hx
  have hM : Mem (mapC K m L :: R) w := hM
  obtain ⟨es, clock, hb, hp, -⟩ := hM.of 0 rfl (φ := MapAt K w m L) (fun S hS => hS.2)
  have hlen : es.size = n := by have := hp.length_eq; simp at this; omega
  have := x_lenM (P := Tryz.prog) (ρ := ρ) (o := o) (w := w) hop hc (arr_one ha) ht hx hT hb
  rw [hlen] at this
  exact res_ok this ⟨fun _ => (0, undef), by simp only [SV.den], hM⟩
/-- do two maps have the same? -/
def sameM {κ α : Type} [DecidableEq κ] [DecidableEq α] (L M : List (κ × α)) : Bool := decide (L.length = M.length) && L.all fun p => decide (lkt M p.1 = some p.2)
theorem sameM_self {κ α : Type} [DecidableEq κ] [DecidableEq α] {L : List (κ × α)} (h : (L.map (·.1)).Nodup) : sameM L L = true := by
  unfold sameM
  rw [decide_eq_true rfl, Bool.true_and, List.all_eq_true]
  exact fun p hp => decide_eq_true (lkt_of h hp)
theorem sameM_len {κ α : Type} [DecidableEq κ] [DecidableEq α] {L M : List (κ × α)} (h : L.length ≠ M.length) : sameM L M = false := by
  unfold sameM; rw [decide_eq_false h]; rfl
theorem sameM_bad {κ α : Type} [DecidableEq κ] [DecidableEq α] {L M : List (κ × α)} {p : κ × α} (hp : p ∈ L) (h : lkt M p.1 ≠ some p.2) : sameM L M = false := by
  unfold sameM
  rw [Bool.and_eq_false_iff]
  refine .inr ?_
  rw [Bool.eq_false_iff]
  intro e
  exact h (of_decide_eq_true (List.all_eq_true.1 e p hp))
theorem sameM_mk {κ α : Type} [DecidableEq κ] [DecidableEq α] {L M : List (κ × α)} (hl : L.length = M.length) (h : ∀ p ∈ L, lkt M p.1 = some p.2) : sameM L M = true := by
  unfold sameM
  rw [decide_eq_true hl, Bool.true_and, List.all_eq_true]
  exact fun p hp => decide_eq_true (h p hp)
/-- two coupons compared, cell by cell -/
def legEq (a b : Leg) : Bool := decide (a.c = b.c) && (decide (a.f = b.f) && (decide (a.x = b.x) && true))
def cpnEq (a b : Cpn) : Bool := legEq a.l b.l && (decide (a.v = b.v) && (decide (a.s = b.s) && (decide (a.n = b.n) && true)))
def ownEq (a b : OwnV) : Bool := cpnEq a.k b.k && ((a.away == b.away) && (decide (a.dst = b.dst) && ((a.paid == b.paid) && ((a.asked == b.asked) && true))))
def heldEq (a b : HeldV) : Bool := cpnEq a.k b.k && ((a.here == b.here) && ((a.paid == b.paid) && ((a.wanted == b.wanted) && ((a.billed == b.billed) && true))))
theorem cpnEq_iff (a b : Cpn) : cpnEq a b = true ↔ a = b := by
  obtain ⟨⟨a1, a2, a3⟩, a4, a5, a6⟩ := a
  obtain ⟨⟨b1, b2, b3⟩, b4, b5, b6⟩ := b
  simp [cpnEq, legEq, and_assoc]
theorem ownEq_iff (a b : OwnV) : ownEq a b = true ↔ a = b := by
  obtain ⟨a1, a2, a3, a4, a5⟩ := a
  obtain ⟨b1, b2, b3, b4, b5⟩ := b
  unfold ownEq
  rw [Bool.and_eq_true, cpnEq_iff]
  simp
theorem heldEq_iff (a b : HeldV) : heldEq a b = true ↔ a = b := by
  obtain ⟨a1, a2, a3, a4, a5⟩ := a
  obtain ⟨b1, b2, b3, b4, b5⟩ := b
  unfold heldEq
  rw [Bool.and_eq_true, cpnEq_iff]
  simp
theorem ownEq_no {a b : OwnV} (h : a ≠ b) : ownEq a b = false := by
  cases e : ownEq a b with
  | false => rfl
  | true => exact absurd ((ownEq_iff a b).1 e) h
theorem heldEq_no {a b : HeldV} (h : a ≠ b) : heldEq a b = false := by
  cases e : heldEq a b with
  | false => rfl
  | true => exact absurd ((heldEq_iff a b).1 e) h
/-- what a map says that lies there -/
theorem map_facts {kt : TypeId} {κ α : Type} {K : KeyKind Tryz.prog kt κ} {enc : α → Value} {L : List (κ × α)} {m : Nat} {R : List Chunk} {w : World} (h : Mem (mapC K m (ents enc L) :: R) w) : (L.map (·.1)).Nodup ∧ ∀ p ∈ L, K.ok p.1 := by
  obtain ⟨es, clock, hb, hp, hn, hk, -⟩ := h.of 0 rfl (φ := MapAt K w m (ents enc L)) (fun S hS => hS.2)
  refine ⟨by unfold ents at hn; rwa [List.map_map] at hn, fun p hp' => ?_⟩
  exact hk (p.1, enc p.2) (List.mem_map_of_mem (f := fun p : κ × α => (p.1, enc p.2)) hp')
end Go.Proofs.YtlekbdpdlalhbaaGreat
end
section
namespace Go.Proofs.YtlekbdpdlalhbaaGreat
set_option maxRecDepth 100000
open Go.RowKit Go.Lib Go.Tk Go.Shelf Go.Vc Go.Sx
set_option linter.unusedVariables false
set_option linter.unusedSimpArgs false

def AloneF17 : Nat := 11
structure EA (B : BookV) : Prop where
  ex : ExOk B
  hl : B.helds = []
theorem EA.hear {B : BookV} (h : EA B) (c : Int) (k : Kid) : EA (hearQ B c (wantM k)).b := by
  rcases hearWant (B := B) c k with e | ⟨o, hl, -, e⟩
  · rw [e]; exact h
  · rw [e]
    exact ⟨h.ex.setO (show OwnOk (givenO o c) from h.ex.own k o hl), (setO_same B k _).2.2.2.trans h.hl⟩
theorem EA.do {B : BookV} (h : EA B) {x : Act17} (ok : SaleOk x.s) : EA (doX B x).b := ⟨doX_ok h.ex ok, (doX_helds B x).trans h.hl⟩
theorem goneB_ea {B : BookV} (h : EA B) (gone : List Kid) (i : Nat) : EA (goneB B gone i) := by
  unfold goneB
  split
  · exact h.hear 0 _
  · exact h
theorem ExOk.clones {B : BookV} (h : ExOk B) : ∀ d ∈ B.docs, TidOk d.t ∧ DocSmall d := fun d hd => ⟨tid_docs h.bk hd, h.sm d hd⟩
def tidEq (a b : Tid) : Bool := decide (a.c = b.c) && (decide (a.r = b.r) && true)
theorem tidEq_iff (a b : Tid) : tidEq a b = true ↔ a = b := by
  obtain ⟨a1, a2⟩ := a
  obtain ⟨b1, b2⟩ := b
  simp [tidEq]
def alSl (a : Option Addr) (n cap : Nat) (b : Option Addr) (m cap2 i k : Nat) : Slots := balSl a n cap b m cap2 i ++ [(8, .ptr 1 5 0), (11, .raw 1 1), (12, .raw 1 2), (14, .val (.int .i64 (k : Int)))]
def alH (F : CF) (B C : BookV) : Heap := balH F C ++ [((1, 5), .fam (bookF B)), ((1, 1), tidR (B.docs.map (·.t))), ((1, 2), tidR (C.docs.map (·.t)))]
/-- the coupons of a ticket that nothing was done with -/
theorem alone_coup (F : CF) {a b : Option Addr} {n cap m cap2 i : Nat} {eb : Env} {R : List Chunk} {J J2 : Act → World → Prop} {B C : BookV} (eB : ExOk B) {k : Nat} (hk32 : k ≤ 32) {d : DocV} (hk : B.docs[k]? = some d)
    (hs : ∀ i : Int, lkt C.owns ⟨d.t, i⟩ = lkt B.owns ⟨d.t, i⟩)
    (hJ : ∀ ε a' w, Rel (ntOf Tryz.prog AloneF17) 1 eb R ⟨alSl a n cap b m cap2 i (k + 1), alH F B C, 2⟩ ε a' w → J2 a' w) :
    Go Tryz.prog AloneF17 (.val (.bool true)) ([((0, 9), .fam F)] ++ []) eb R .nrm (rgK Tryz.prog AloneF17 29 [J, J2]) (alSl a n cap b m cap2 i k) (alH F B C) := by
  have hd := List.mem_of_getElem? hk
  have t0 := tid_docs eB.bk hd
  have hkl : k < (B.docs.map (·.t)).length := by
    rcases Nat.lt_or_ge k (B.docs.map (·.t)).length with h | h
    · exact h
    · rw [List.length_map] at h; rw [List.getElem?_eq_none h] at hk; cases hk
  have q1 := load_eltG (P := Tryz.prog) (t := 25) (cs := tidS d.t) (n := (B.docs.map (·.t)).length) (p := 0) (j := 0) (b := k * 2) (E := 25) (size := 2) (u := .agg (tidS d.t)) (by kernel_rfl) (tid_nth (tids_get hk))
  have z9 : IntKind.i64.wrap ((k : Int) + 1) = ((k + 1 : Nat) : Int) := by rw [wr_i64 (by omega)]; omega
  refine go_loop (X := { j : Nat // j ≤ 4 }) 2 [J, J2] (fun x => (alSl a n cap b m cap2 i k ++ [(19, .val (.int .i64 (x.1 : Int)))], alH F B C)) (fun x => 4 - x.1) ⟨0, Nat.zero_le _⟩ calNone false 400 [] calNone_ok (by kernel_rfl) ?_
  rintro ⟨j, hj⟩ J3 hJ3
  by_cases h : j < 4
  · have z0 : decide ((j : Int) < 4) = true := decide_eq_true (by omega)
    have z1 : IntKind.u8.wrap (j : Int) = (j : Int) := wr_u8 (by omega)
    have c1 := own_c B (k := ⟨d.t, (j : Int)⟩) (kidOk_at t0 (by omega) (by omega))
    have c2 := own_c C (k := ⟨d.t, (j : Int)⟩) (kidOk_at t0 (by omega) (by omega))
    rw [hs] at c2
    generalize lkt B.owns ⟨d.t, (j : Int)⟩ = x at *
    have e1 : (!ownEq (x.getD own0) (x.getD own0)) = false := by rw [(ownEq_iff _ _).2 rfl]; rfl
    unfold ownEq cpnEq legEq at e1
    have z2 : IntKind.i64.wrap ((j : Int) + 1) = ((j + 1 : Nat) : Int) := by rw [wr_i64 (by omega)]; omega
    exact leaf_round (lpK Tryz.prog AloneF17 2 [J, J2]) false 400 [hB 30 1 _ _ z0, .opt 32 2 (.at_ 0 _ _ _ ⟨rfl, hkl⟩), hG 32 3 q1, hI 32 5 IntKind.u8 _ _ z1, hC 33 2 c1, hC 34 2 c2, hB 35 2 _ _ e1, hI 31 1 IntKind.i64 _ _ z2] (hJ3 ⟨j + 1, h⟩ (by show _ - (j + 1) < _ - j; omega)) (by kernel_rfl)
  · have he : j = 4 := by omega
    subst he
    exact leaf_round (lpK Tryz.prog AloneF17 1 [J]) false 400 [hI 21 1 IntKind.i64 _ _ z9] hJ (by kernel_rfl)
theorem alone_doc (F : CF) {a b : Option Addr} {cap m cap2 i : Nat} {acts : List Act17} (hRa : ∀ b v, Rd (F b v) a (cellsL act17C acts)) (hi : i < acts.length) {eb : Env} {R : List Chunk} {J J2 : Act → World → Prop} {B C : BookV} (eB : ExOk B) (eC : ExOk C)
    {x : Act17} (hx : acts.getD i act17Z = x) (hdo : C = (doX B x).b) {k : Nat} (hk32 : k ≤ 32) {d : DocV} (hk : B.docs[k]? = some d)
    (hJ : ∀ ε a' w, Rel (ntOf Tryz.prog AloneF17) 1 eb R ⟨alSl a acts.length cap b m cap2 i (k + 1), alH F B C, 2⟩ ε a' w → J2 a' w) :
    Go Tryz.prog AloneF17 (.val (.bool true)) ([((0, 9), .fam F)] ++ []) eb R .nrm (rgK Tryz.prog AloneF17 22 [J, J2]) (alSl a acts.length cap b m cap2 i k) (alH F B C) := by
  obtain ⟨d', hk', ht', hsame⟩ := doX_docs eB.bk x hk
  rw [← hdo] at hk' hsame
  have hkl : k < (B.docs.map (·.t)).length := by
    rcases Nat.lt_or_ge k (B.docs.map (·.t)).length with h | h
    · exact h
    · rw [List.length_map] at h; rw [List.getElem?_eq_none h] at hk; cases hk
  have hkl' : k < (C.docs.map (·.t)).length := by
    rcases Nat.lt_or_ge k (C.docs.map (·.t)).length with h | h
    · exact h
    · rw [List.length_map] at h; rw [List.getElem?_eq_none h] at hk'; cases hk'
  have q1 := load_eltG (P := Tryz.prog) (t := 25) (cs := tidS d.t) (n := (B.docs.map (·.t)).length) (p := 0) (j := 0) (b := k * 2) (E := 25) (size := 2) (u := .agg (tidS d.t)) (by kernel_rfl) (tid_nth (tids_get hk))
  have q2 := load_eltG (P := Tryz.prog) (t := 25) (cs := tidS d.t) (n := (C.docs.map (·.t)).length) (p := 0) (j := 0) (b := k * 2) (E := 25) (size := 2) (u := .agg (tidS d.t)) (by kernel_rfl) (tid_nth (ht' ▸ tids_get hk'))
  have e0 : (!tidEq d.t d.t) = false := by rw [(tidEq_iff _ _).2 rfl]; rfl
  unfold tidEq at e0
  have q3 := idx_openG (P := Tryz.prog) (t := AT17) (e := 100) (size := 8) (j := 9) (k := .i64) (cap := cap) (n := acts.length) Tryz.underlying97 (by kernel_rfl) (acts17_len acts) hRa hi
  have hpos : 0 < (cellsL act17C acts).length := by rw [acts17_len]; omega
  have nth := act17_nth hi
  have q4 := load_openG (P := Tryz.prog) (t := 25) (k := i * 8) (j := 9) (u := .agg (tidS (acts.getD i act17Z).t)) 1 (by kernel_rfl) hRa nth hpos
  have q5 := load_openG (P := Tryz.prog) (t := 3) (k := i * 8) (j := 9) (u := .val (.int .i64 (acts.getD i act17Z).d)) 0 (by kernel_rfl) hRa nth hpos
  rw [hx] at q4 q5
  have z9 : IntKind.i64.wrap ((k : Int) + 1) = ((k + 1 : Nat) : Int) := by rw [wr_i64 (by omega)]; omega
  have go25 : (d.t ≠ x.t ∨ x.d = 0) → Go Tryz.prog AloneF17 (.val (.bool true)) ([((0, 9), .fam F)] ++ []) eb R .nrm (rgK Tryz.prog AloneF17 25 [J, J2]) (alSl a acts.length cap b m cap2 i k) (alH F B C) := fun hq => by
    obtain ⟨rfl, hs⟩ := hsame hq
    have hd := List.mem_of_getElem? hk
    have hd' := List.mem_of_getElem? hk'
    have t0 := tid_docs eB.bk hd
    have c1 := doc_ok t0 (lkD_mem_eq eB.bk.nodup hd) (eB.sm _ hd)
    have c2 := doc_ok t0 (lkD_mem_eq eC.bk.nodup hd') (eC.sm _ hd')
    have n1 : (!decide (d'.paid = d'.paid)) = false := by simp
    have n2 : (!decide (d'.back = d'.back)) = false := by simp
    have n3 : (!decide (d'.kept = d'.kept)) = false := by simp
    have n4 : (!decide (d'.left = d'.left)) = false := by simp
    have n5 : (!decide (d'.credit = d'.credit)) = false := by simp
    have n6 : (!(decide (d'.dst.c = d'.dst.c) && (decide (d'.dst.r = d'.dst.r) && true))) = false := by simp
    have n7 : (!(decide (d'.frm.c = d'.frm.c) && (decide (d'.frm.r = d'.frm.r) && true))) = false := by simp
    have fin := alone_coup F (a := a) (b := b) (n := acts.length) (cap := cap) (m := m) (cap2 := cap2) (i := i) (eb := eb) (R := R) (J := J) eB hk32 hk hs hJ
    clear hJ
    exact leaf_cut (rgK Tryz.prog AloneF17 29 [J, J2]) _ _ calNone false 400 [.opt 25 3 (.at_ 0 _ _ _ ⟨rfl, hkl⟩), hG 25 4 q1, hC 25 5 c1, .opt 26 3 (.at_ 0 _ _ _ ⟨rfl, hkl⟩), hG 26 4 q1, hC 26 5 c2, hB 27 4 _ _ n1, hB 27 10 _ _ n2, hB 27 17 _ _ n3, hB 27 24 _ _ n4, hB 27 31 _ _ n5, hB 27 38 _ _ n6, hB 27 45 _ _ n7, .stop 29] calNone_ok (by kernel_rfl) fin
  by_cases hq : d.t ≠ x.t ∨ x.d = 0
  · have fin := go25 hq
    clear go25 hJ
    rcases Bool.eq_false_or_eq_true (tidEq d.t x.t) with e1 | e1
    · have e2 : (!decide (x.d = 0)) = false := by
        rcases hq with h | h
        · exact absurd ((tidEq_iff _ _).1 e1) h
        · rw [decide_eq_true h]; rfl
      unfold tidEq at e1
      exact leaf_cut (rgK Tryz.prog AloneF17 25 [J, J2]) _ _ calNone false 400 [.opt 22 2 (.at_ 0 _ _ _ ⟨rfl, hkl⟩), hG 22 3 q1, .opt 22 6 (.at_ 0 _ _ _ ⟨rfl, hkl'⟩), hG 22 7 q2, hB 22 8 _ _ e0, .opt 24 2 (.at_ 0 _ _ _ ⟨rfl, hkl⟩), hG 24 3 q1, hG 24 6 q3, hG 24 8 q4, hB 24 9 _ _ e1, hG 24 13 q3, hG 24 15 q5, hB 24 16 _ _ e2, .stop 25] calNone_ok (by kernel_rfl) fin
    · unfold tidEq at e1
      exact leaf_cut (rgK Tryz.prog AloneF17 25 [J, J2]) _ _ calNone false 400 [.opt 22 2 (.at_ 0 _ _ _ ⟨rfl, hkl⟩), hG 22 3 q1, .opt 22 6 (.at_ 0 _ _ _ ⟨rfl, hkl'⟩), hG 22 7 q2, hB 22 8 _ _ e0, .opt 24 2 (.at_ 0 _ _ _ ⟨rfl, hkl⟩), hG 24 3 q1, hG 24 6 q3, hG 24 8 q4, hB 24 9 _ _ e1, .stop 25] calNone_ok (by kernel_rfl) fin
  · clear go25
    have e1 : tidEq d.t x.t = true := (tidEq_iff _ _).2 (Classical.not_not.1 fun h => hq (.inl h))
    have e2 : (!decide (x.d = 0)) = true := by rw [decide_eq_false fun h => hq (.inr h)]; rfl
    unfold tidEq at e1
    exact leaf_round (lpK Tryz.prog AloneF17 1 [J]) false 400 [.opt 22 2 (.at_ 0 _ _ _ ⟨rfl, hkl⟩), hG 22 3 q1, .opt 22 6 (.at_ 0 _ _ _ ⟨rfl, hkl'⟩), hG 22 7 q2, hB 22 8 _ _ e0, .opt 24 2 (.at_ 0 _ _ _ ⟨rfl, hkl⟩), hG 24 3 q1, hG 24 6 q3, hG 24 8 q4, hB 24 9 _ _ e1, hG 24 13 q3, hG 24 15 q5, hB 24 16 _ _ e2, hI 21 1 IntKind.i64 _ _ z9] hJ (by kernel_rfl)
/-- from the clone on -/
theorem alone_act (F : CF) {a b : Option Addr} {cap m cap2 i : Nat} {acts : List Act17} (hRa : ∀ b v, Rd (F b v) a (cellsL act17C acts)) (hl : acts.length ≤ 1000) (hi : i < acts.length) {x : Act17} (hx : acts.getD i act17Z = x) (ha : ActRd F x)
    {eb : Env} {R : List Chunk} {J : Act → World → Prop} {B : BookV} (eB : EA B)
    (hJ : ∀ ε a' w, Rel (ntOf Tryz.prog AloneF17) 1 eb R ⟨balSl a acts.length cap b m cap2 (i + 1), balH F (doX B x).b, 2⟩ ε a' w → J a' w) :
    Go Tryz.prog AloneF17 (.val (.bool true)) ([((0, 9), .fam F)] ++ []) eb R .nrm (rgK Tryz.prog AloneF17 11 [J]) (balSl a acts.length cap b m cap2 i) (balH F B) := by
  have c0 := clone_b B eB.ex.clones eB.ex.bk.nodup
  have q3 := idx_openG (P := Tryz.prog) (t := AT17) (e := 100) (size := 8) (j := 9) (k := .i64) (cap := cap) (n := acts.length) Tryz.underlying97 (by kernel_rfl) (acts17_len acts) hRa hi
  have hpos : 0 < (cellsL act17C acts).length := by rw [acts17_len]; omega
  have nth := act17_nth hi
  have q4 := load_openG0 (P := Tryz.prog) (t := 100) (k := i * 8) (j := 9) (u := .agg (act17X (acts.getD i act17Z) (acts.getD i act17Z).d)) (by kernel_rfl) hRa nth hpos
  have q5 := load_openG (P := Tryz.prog) (t := 3) (k := i * 8) (j := 9) (u := .val (.int .i64 (acts.getD i act17Z).d)) 0 (by kernel_rfl) hRa nth hpos
  have c1 := do17_w F eB.ex ha
  have eB' := eB.do ha.ok
  have c2 := tickets_c eB.ex.bk
  have hle := doX_len eB.ex.bk x
  have hhe := doX_helds B x
  have hC0 : (doX B x).b = (doX B x).b := rfl
  have hdoc : ∀ k, k ≤ 32 → ∀ d, B.docs[k]? = some d → ∀ (J2 : Act → World → Prop), (∀ ε a' w, Rel (ntOf Tryz.prog AloneF17) 1 eb R ⟨alSl a acts.length cap b m cap2 i (k + 1), alH F B (doX B x).b, 2⟩ ε a' w → J2 a' w) → Go Tryz.prog AloneF17 (.val (.bool true)) ([((0, 9), .fam F)] ++ []) eb R .nrm (rgK Tryz.prog AloneF17 22 [J, J2]) (alSl a acts.length cap b m cap2 i k) (alH F B (doX B x).b) :=
    fun k hk d hd J2 h => alone_doc F (b := b) (cap := cap) (m := m) (cap2 := cap2) hRa hi eB.ex eB'.ex hx rfl hk hd h
  rw [hx] at q4 q5
  generalize doX B x = q at *
  obtain ⟨qe, qt, qa, qs, C⟩ := q
  have hle : C.docs.length = B.docs.length + (bif decide (qe = 0) then moreX x else 0) := hle
  have eB' : EA C := eB'
  have c3 := tickets_c eB'.ex.bk
  have c4 := keys_c (B := B) (by rw [eB.hl]; exact Nat.zero_le _)
  have c5 := keys_c (B := C) (by rw [eB'.hl]; exact Nat.zero_le _)
  have hmB := eB.ex.bk.many
  have hmC := eB'.ex.bk.many
  have hk1 : (keysL B).length = 0 := by rw [keysL_len, eB.hl]; rfl
  have hk2 : (keysL C).length = 0 := by rw [keysL_len, eB'.hl]; rfl
  have n9 : (!decide (((keysL C).length : Int) = ((keysL B).length : Int))) = false := by rw [hk1, hk2]; rfl
  have lB : (B.docs.map (·.t)).length = B.docs.length := List.length_map _
  have lC : (C.docs.map (·.t)).length = C.docs.length := List.length_map _
  have go17 : ∀ more : Nat, more ≤ 1 → C.docs.length = B.docs.length + more → Go Tryz.prog AloneF17 (.val (.bool true)) ([((0, 9), .fam F)] ++ []) eb R .nrm (rgK Tryz.prog AloneF17 17 [J]) (balSl a acts.length cap b m cap2 i ++ [(8, .ptr 1 5 0), (11, .raw 1 1), (12, .raw 1 2), (13, .val (.int .i64 (more : Int)))]) (alH F B C) := fun more hm1 hm => by
    have n1 : IntKind.i64.wrap (((B.docs.map (·.t)).length : Int) + (more : Int)) = (((B.docs.map (·.t)).length : Int) + (more : Int)) := wrap_in (by omega)
    have n2 : (!decide (((C.docs.map (·.t)).length : Int) = (((B.docs.map (·.t)).length : Int) + (more : Int)))) = false := by rw [lB, lC, hm]; simp
    refine go_loop (X := { k : Nat // k ≤ B.docs.length }) 1 [J] (fun x => (alSl a acts.length cap b m cap2 i x.1, alH F B C)) (fun x => B.docs.length - x.1) ⟨0, Nat.zero_le _⟩ calNone false 400 [hI 17 5 IntKind.i64 _ _ n1, hB 17 6 _ _ n2, hC 17 9 c5, hC 17 12 c4, hB 17 14 _ _ n9] calNone_ok (by kernel_rfl) ?_
    rintro ⟨k, hk⟩ J2 hJ2
    by_cases h : k < B.docs.length
    · have z0 : decide ((k : Int) < ((B.docs.map (·.t)).length : Int)) = true := decide_eq_true (by omega)
      have fin := hdoc k (by omega) _ (List.getElem?_eq_getElem h) J2 (hJ2 ⟨k + 1, h⟩ (by show _ - (k + 1) < _ - k; omega))
      exact leaf_cut (rgK Tryz.prog AloneF17 22 [J, J2]) _ _ calNone false 400 [hB 20 3 _ _ z0, .stop 22] calNone_ok (by kernel_rfl) fin
    · have he : k = B.docs.length := by omega
      subst he
      have z0 : decide ((B.docs.length : Int) < ((B.docs.map (·.t)).length : Int)) = false := decide_eq_false (by omega)
      have z2 : IntKind.i64.wrap ((i : Int) + 1) = ((i + 1 : Nat) : Int) := by rw [wr_i64 (by omega)]; omega
      exact leaf_round (lpK Tryz.prog AloneF17 0 []) false 400 [hB 20 3 _ _ z0, hI 8 1 IntKind.i64 _ _ z2] hJ (by kernel_rfl)
  rcases Bool.eq_false_or_eq_true (decide (qe = 0)) with e0 | e0
  · rw [e0] at hle
    rcases Bool.eq_false_or_eq_true (decide (x.d < 1)) with e1 | e1
    · have fin := go17 1 (by decide) (by rw [hle]; unfold moreX; rw [if_pos (.inl (of_decide_eq_true e1))]; rfl)
      clear go17 hdoc hJ
      exact leaf_cut (rgK Tryz.prog AloneF17 17 [J]) _ _ calNone false 400 [hC 11 1 c0, hG 12 3 q3, hG 12 4 q4, hC 12 5 c1, hC 13 1 c2, hC 13 3 c3, hB 15 1 _ _ e0, hG 15 5 q3, hG 15 7 q5, hB 15 8 _ _ e1, .stop 17] calNone_ok (by kernel_rfl) fin
    rcases Bool.eq_false_or_eq_true (decide (3 < x.d)) with e2 | e2
    · have fin := go17 1 (by decide) (by rw [hle]; unfold moreX; rw [if_pos (.inr (of_decide_eq_true e2))]; rfl)
      clear go17 hdoc hJ
      exact leaf_cut (rgK Tryz.prog AloneF17 17 [J]) _ _ calNone false 400 [hC 11 1 c0, hG 12 3 q3, hG 12 4 q4, hC 12 5 c1, hC 13 1 c2, hC 13 3 c3, hB 15 1 _ _ e0, hG 15 5 q3, hG 15 7 q5, hB 15 8 _ _ e1, hG 15 12 q3, hG 15 14 q5, hB 15 15 _ _ e2, .stop 17] calNone_ok (by kernel_rfl) fin
    · have fin := go17 0 (by decide) (by rw [hle]; unfold moreX; rw [if_neg (by have := of_decide_eq_false e1; have := of_decide_eq_false e2; omega)]; rfl)
      clear go17 hdoc hJ
      exact leaf_cut (rgK Tryz.prog AloneF17 17 [J]) _ _ calNone false 400 [hC 11 1 c0, hG 12 3 q3, hG 12 4 q4, hC 12 5 c1, hC 13 1 c2, hC 13 3 c3, hB 15 1 _ _ e0, hG 15 5 q3, hG 15 7 q5, hB 15 8 _ _ e1, hG 15 12 q3, hG 15 14 q5, hB 15 15 _ _ e2, .stop 17] calNone_ok (by kernel_rfl) fin
  · rw [e0] at hle
    have fin := go17 0 (by decide) hle
    clear go17 hdoc hJ
    exact leaf_cut (rgK Tryz.prog AloneF17 17 [J]) _ _ calNone false 400 [hC 11 1 c0, hG 12 3 q3, hG 12 4 q4, hC 12 5 c1, hC 13 1 c2, hC 13 3 c3, hB 15 1 _ _ e0, .stop 17] calNone_ok (by kernel_rfl) fin
theorem alone17_law (F : CF) {a b : Option Addr} {cap cap2 : Nat} {acts : List Act17} {gone : List Kid} (hRa : ∀ b v, Rd (F b v) a (cellsL act17C acts)) (hRb : ∀ b' v, Rd (F b' v) b (cellsL kidC gone)) (hk : ∀ x ∈ gone, KidOk x) (hl : acts.length ≤ 9223372036854775807) (hl2 : gone.length ≤ 9223372036854775807)
    (hf : ∀ x ∈ acts, x.s.legs.length ≤ 9223372036854775807 ∧ x.s.taxes.length ≤ 9223372036854775807 ∧ x.s.name.size ≤ 9223372036854775807) (hA : greatM acts = false → ∀ x ∈ acts, ActRd F x) :
    CallOK Tryz.prog AloneF17 [.val (.slice a acts.length cap), .val (.slice b gone.length cap2)] [((0, 9), .fam F)] [] (.val (.bool true)) [] := by
  have c0 := great17_w F (cap := cap) hRa hl hf
  have c9 := wakes17_w
  rcases Bool.eq_false_or_eq_true (greatM acts) with g | g
  · rw [g] at c0
    exact callOK_run 400 [hC 1 1 c0, hC 2 0 c9] (by kernel_rfl) (by kernel_rfl)
  rw [g] at c0
  have hA := hA g
  have hlen := (greatM_no g).1
  rcases Bool.eq_false_or_eq_true (decide ((100 : Int) < (gone.length : Int))) with g2 | g2
  · exact callOK_run 400 [hC 1 1 c0, hB 1 5 _ _ g2, hC 2 0 c9] (by kernel_rfl) (by kernel_rfl)
  have c1 := new_okC (self := 1) (n := 3) (by decide) (by decide)
  refine callOK_intro (by kernel_rfl) fun eb R => ?_
  refine go_loop (X := { i : Nat // i ≤ acts.length ∧ EA (runE acts gone i) }) 0 [] (fun x => (balSl a acts.length cap b gone.length cap2 x.1, balH F (runE acts gone x.1))) (fun x => acts.length - x.1) ⟨0, Nat.zero_le _, new_ex 1 3 (by decide), rfl⟩ calNone false 400 [hC 1 1 c0, hB 1 5 _ _ g2, hC 3 0 c1] calNone_ok (by kernel_rfl) ?_
  rintro ⟨i, hi, eB⟩ J hJ
  by_cases h : i < acts.length
  · have z0 : decide ((i : Int) < (acts.length : Int)) = true := decide_eq_true (by omega)
    have hin : acts.getD i act17Z ∈ acts := List.mem_of_getElem? (getD_some h act17Z)
    have eB' := (goneB_ea eB gone i).do (hA _ hin).ok
    have fin := alone_act F (a := a) (b := b) (cap := cap) (m := gone.length) (cap2 := cap2) (eb := eb) (R := R) (J := J) hRa (by omega) h rfl (hA _ hin) (goneB_ea eB gone i) (hJ ⟨i + 1, h, eB'⟩ (by show _ - (i + 1) < _ - i; omega))
    clear hJ
    by_cases hg : i < gone.length
    · have eg : goneB (runE acts gone i) gone i = (hearQ (runE acts gone i) 0 (wantM (gone.getD i kid0))).b := by unfold goneB; rw [if_pos hg]
      rw [eg] at fin
      have z1 : decide ((i : Int) < (gone.length : Int)) = true := decide_eq_true (by omega)
      have hkin : gone.getD i kid0 ∈ gone := List.mem_of_getElem? (getD_some hg kid0)
      have q3 := idx_openG (P := Tryz.prog) (t := 78) (e := 27) (size := 3) (j := 9) (k := .i64) (cap := cap2) (n := gone.length) Tryz.underlying78 (by kernel_rfl) (kidC_len gone) hRb hg
      have q4 := load_openG0 (P := Tryz.prog) (t := 27) (k := i * 3) (j := 9) (u := .agg (kidS (gone.getD i kid0))) (by kernel_rfl) hRb (kid_nth hg) (by rw [kidC_len]; omega)
      have c2 := hear_c (runE acts gone i) (c := 0) (by decide) (wantM (gone.getD i kid0)) ⟨by show (0 : Int) ≤ 1; decide, by show (1 : Int) ≤ 255; decide⟩ (hk _ hkin)
      exact leaf_cut (rgK Tryz.prog AloneF17 11 [J]) _ _ calNone false 400 [hB 7 3 _ _ z0, hB 9 3 _ _ z1, hG 10 3 q3, hG 10 4 q4, hC 10 6 c2, .stop 11] calNone_ok (by kernel_rfl) fin
    · have eg : goneB (runE acts gone i) gone i = runE acts gone i := by unfold goneB; rw [if_neg hg]
      rw [eg] at fin
      have z1 : decide ((i : Int) < (gone.length : Int)) = false := decide_eq_false (by omega)
      exact leaf_cut (rgK Tryz.prog AloneF17 11 [J]) _ _ calNone false 400 [hB 7 3 _ _ z0, hB 9 3 _ _ z1, .stop 11] calNone_ok (by kernel_rfl) fin
  · have z0 : decide ((i : Int) < (acts.length : Int)) = false := decide_eq_false (by omega)
    exact leaf_end calNone false 400 [hB 7 3 _ _ z0, hC 37 0 c9] calNone_ok (by kernel_rfl)
theorem alone17_any (a : Option Addr) (l : List Act17) (c : Nat) (b : Option Addr) (g : List Kid) (c2 : Nat) (w : World) (hr : Row w a (cellsL act17C l)) (hn : a = none → c = 0) (hl : l.length ≤ maxLen) (ok : ∀ x ∈ l, Act17In w x)
    (hr2 : Row w b (cellsL kidC g)) (hn2 : b = none → c2 = 0) (hl2 : g.length ≤ maxLen) (ok2 : ∀ x ∈ g, KidOk x) :
    Calls Tryz.prog AloneF17 #[.slice a l.length c, .slice b g.length c2] w fun e w' => e = .returned (.bool true) ∧ Below w.heap.size w w' :=
  (alone17_law (fun _ _ => oldC w) (cap := c) (cap2 := c2) (fun _ _ => rd_old hr) (fun _ _ => rd_old hr2) ok2 (maxLen_le hl) (maxLen_le hl2) (fun x hx => ⟨maxLen_le (ok x hx).ok.nl, maxLen_le (ok x hx).ok.nt, maxLen_le (ok x hx).ok.name⟩)
    (fun hg x hx => actRd_of (ok x hx) (by have := ((greatM_no hg).2 x hx).1; omega) (by have := ((greatM_no hg).2 x hx).2; omega)) (fun _ _ => (0, undef)) [] w (Mem.old w)).mono fun e w' ⟨x, h, hm⟩ => ⟨h, (show Mem (oldC w :: []) w' from hm).below 0 rfl⟩
end Go.Proofs.YtlekbdpdlalhbaaGreat
end
