/- BkC1, BkC2, BkC3, BkC4, Sm0, Bs3, FsBookSets. -/
import Derived.Test.YtlekbdpdlalhbaaGreatM9546967
import Derived.Shelf.SlMaps.Clone
import Derived.Test.YtlekbdpdlalhbaaGreatM967e4a0
import Derived.Test.YtlekbdpdlalhbaaGreatHo4
import Derived.Test.YtlekbdpdlalhbaaGreatMd12a534
import Derived.Test.YtlekbdpdlalhbaaGreatMbfb25a9
import Derived.Test.YtlekbdpdlalhbaaGreatRows
import Derived.Test.YtlekbdpdlalhbaaGreatChecked
import Derived.ProofKit
import Derived.OpenShut
import Derived.ShutString
import Derived.ChangeOld
import Derived.Below
section
namespace Go.Proofs.YtlekbdpdlalhbaaGreat
set_option maxRecDepth 100000
open Go.RowKit Go.Lib Go.Tk Go.Shelf Go.Vc Go.Sx Go.Maps
set_option linter.unusedVariables false
set_option linter.unusedSimpArgs false
def CloneOF : Nat := 64
def CloneHF : Nat := 65
set_option maxHeartbeats 2000000 in
theorem cloneO_any (b : Nat) (es : Array MapEntry) (clock : Nat) (w : World) (hb : w.heap[b]? = some (.map es clock)) :
    Calls Tryz.prog CloneOF #[.map (some b)] w fun e w' => e = .returned (.map (some w.heap.size)) ∧ w' = w.alloc (.map es clock) := by
  unfold CloneOF
  have hq := fun w => run_eql_map_nil_sl (P := Tryz.prog) w 134 _ _ (some b) Tryz.underlying134
  go_enter Tryz.func64, Tryz.ntmps64
  go_wp2
  rw [run_callFunc_extern Tryz.func134 (by kernel_rfl) (by kernel_rfl) (by kernel_rfl) (e := Extern.MapsClone.clone) (by kernel_rfl), run_maps_clone_sl w 134 hb]
  simp only [Result.andThen]
  rw [Oper.upon_value]
  go_wp2
  rw [run_typeAssert_map_sl _ 134 _ _ _ _ Tryz.underlying134]
  simp only [Result.andThen]
  rw [Oper.upon_value]
  go_wp2
  go_ret
  exact ⟨rfl, rfl⟩
set_option maxHeartbeats 2000000 in
theorem cloneH_any (b : Nat) (es : Array MapEntry) (clock : Nat) (w : World) (hb : w.heap[b]? = some (.map es clock)) :
    Calls Tryz.prog CloneHF #[.map (some b)] w fun e w' => e = .returned (.map (some w.heap.size)) ∧ w' = w.alloc (.map es clock) := by
  unfold CloneHF
  have hq := fun w => run_eql_map_nil_sl (P := Tryz.prog) w 135 _ _ (some b) Tryz.underlying135
  go_enter Tryz.func65, Tryz.ntmps65
  go_wp2
  rw [run_callFunc_extern Tryz.func134 (by kernel_rfl) (by kernel_rfl) (by kernel_rfl) (e := Extern.MapsClone.clone) (by kernel_rfl), run_maps_clone_sl w 135 hb]
  simp only [Result.andThen]
  rw [Oper.upon_value]
  go_wp2
  rw [run_typeAssert_map_sl _ 135 _ _ _ _ Tryz.underlying135]
  simp only [Result.andThen]
  rw [Oper.upon_value]
  go_wp2
  go_ret
  exact ⟨rfl, rfl⟩
end Go.Proofs.YtlekbdpdlalhbaaGreat
end
section
namespace Go.Proofs.YtlekbdpdlalhbaaGreat
set_option maxRecDepth 100000
open Go.RowKit Go.Lib Go.Tk Go.Shelf Go.Vc Go.Sx Go.Maps
set_option linter.unusedVariables false
set_option linter.unusedSimpArgs false
/-- the rows of documents -/
def rowsC (L : List (DocV × DocA)) : Chunk where
  at_ S w := ∀ p ∈ L, DocIn S w p
  stable hk hi h := fun p hp => (h p hp).stays hk hi
theorem docs_split {L : List (DocV × DocA)} {b : Nat} {v : Value} {R : List Chunk} {w : World} (h : Mem (docsF L b v :: R) w) : Mem (mapC tidK b (ents docW (docKV L)) :: rowsC L :: R) w := by
  have h1 : Mem (allC [mapC tidK b (ents docW (docKV L)), rowsC L] :: R) w := h.weaken fun S hS => by
    obtain ⟨⟨hb, hm⟩, Sd, g1, g2, -⟩ := hS
    refine ⟨fun i k => match i with | 0 => k = b | _ => Sd k, fun i k hi hk => ?_, fun i c hc => ?_, fun i j k hi hj hij hki hkj => ?_⟩
    · match i, hk with
      | 0, hk => exact hk ▸ hb
      | i + 1, hk => exact (g1 k hk).1
    · match i, hc with
      | 0, hc => cases hc; exact ⟨rfl, hm⟩
      | 1, hc => cases hc; exact g2
      | i + 2, hc => cases hc
    · match i, j, hij, hki, hkj with
      | 0, 0, hij, _, _ => exact hij rfl
      | 0, j + 1, _, hki, hkj => exact (g1 k hkj).2 hki
      | i + 1, 0, _, hki, hkj => exact (g1 k hki).2 hkj
      | i + 1, j + 1, hij, _, _ => simp at hi hj; exact hij (by omega)
  exact h1.all
theorem docs_shut {L : List (DocV × DocA)} {b : Nat} {v : Value} {R : List Chunk} {w : World} (h : Mem (mapC tidK b (ents docW (docKV L)) :: rowsC L :: R) w) : Mem (docsF L b v :: R) w := by
  refine mem_join (l := [mapC tidK b (ents docW (docKV L)), rowsC L]) h fun S hS => ?_
  obtain ⟨F, g1, g2, g3⟩ := hS
  have m0 := g2 0 _ rfl
  have m1 := g2 1 _ rfl
  refine ⟨⟨g1 0 b (by simp) m0.1, m0.2⟩, F 1, fun k hk => ⟨g1 1 k (by simp) hk, fun e => ?_⟩, m1, fun p hp => by cases hp⟩
  subst e
  exact g3 1 0 k (by simp) (by simp) (by decide) hk m0.1
end Go.Proofs.YtlekbdpdlalhbaaGreat
end
section
namespace Go.Proofs.YtlekbdpdlalhbaaGreat
set_option maxRecDepth 100000
open Go.RowKit Go.Lib Go.Tk Go.Shelf Go.Vc Go.Sx Go.Maps
set_option linter.unusedVariables false
set_option linter.unusedSimpArgs false
theorem copied_rows (L : List (DocV × DocA)) (p : DocV × DocA) (hp : p ∈ L) (sm : DocSmall p.1) : CallOK Tryz.prog CopiedF [.agg (docSA p.1 p.2)] [((0, 5), .fam fun _ _ => rowsC L)] [] (.agg (docS p.1 (.raw 1 0) (.raw 1 1) (.raw 1 2))) (docR p.1) := by
  refine CallOK.mv 5 ?_ rfl rfl rfl
  intro ε R w hM
  have hM' : Mem (rowsC L :: R) w := hM
  have ok : SlOk p.2.la p.1.s.legs.length p.2.lc ∧ SlOk p.2.ta p.1.s.taxes.length p.2.tc ∧ SlOk p.2.va p.1.vals.length p.2.vc := hM'.of 0 rfl fun S hS => ⟨(hS p hp).okl, (hS p hp).okt, (hS p hp).okv⟩
  exact copied_w (fun _ _ => rowsC L) (fun b v S w h => (h p hp).legs) (fun b v S w h => (h p hp).taxes) (fun b v S w h => (h p hp).vals) ok.1 ok.2.1 ok.2.2 sm ε R w hM
theorem putt_new {κ α : Type} [DecidableEq κ] : ∀ (l : List (κ × α)) (k : κ) (a : α), (∀ p ∈ l, p.1 ≠ k) → putt l k a = l ++ [(k, a)]
  | [], _, _, _ => rfl
  | p :: l, k, a, h => by
    show (if _ then _ else _) = _
    rw [if_neg (h p List.mem_cons_self), putt_new l k a fun q hq => h q (List.mem_cons_of_mem _ hq)]
    rfl
/-- a new document whose lists lie in rows of one's own is set -/
theorem upd_docsN (ds : List DocV) (d : DocV) (ht : TidOk d.t) (hn : ∀ x ∈ ds, x.t ≠ d.t) :
    OpG Tryz.prog (isUp DT) upXYZ [.map 0 0, .agg (tidS d.t), .agg (docS d (.raw 0 1) (.raw 0 2) (.raw 0 3))] [] [((0, 0), .fam (docsX ds)), ((0, 1), legR d.s.legs.length d.s.legs), ((0, 2), taxR d.s.taxes.length d.s.taxes), ((0, 3), i64R d.vals.length d.vals)] (.val undef) [((0, 0), .fam (docsX (ds ++ [d])))] := by
  intro o ho
  refine ⟨(upd_docs [] [(d, docA0)] (d, docA0) ht (List.Perm.refl _) o ho).1, fun ε ρ R w hx hM => ?_⟩
  have hM : Mem (docsX ds (ε 0 0).1 (ε 0 0).2 :: rowC 31 3 (asSl (ε 0 1).2) d.s.legs.length (cellsL encLeg d.s.legs) :: rowC 214 2 (asSl (ε 0 2).2) d.s.taxes.length (cellsL encTax d.s.taxes) :: rowC 2 1 (asSl (ε 0 3).2) d.vals.length (d.vals.map (.int .i64)) :: R) w := hM
  obtain ⟨la, lc, hvl, okl⟩ := row_sl (hM.owns 1 rfl)
  obtain ⟨ta, tc, hvt, okt⟩ := row_sl (hM.owns 2 rfl)
  obtain ⟨va, vc, hvv, okv⟩ := row_sl (hM.owns 3 rfl)
  rw [hvl, hvt, hvv] at hM
  obtain ⟨⟨L, hL⟩, hM⟩ := Mem.ex hM
  have hM2 := docs_join (p := (d, ⟨la, lc, ta, tc, va, vc⟩)) rfl rfl rfl hM
  have hp : (putt (docKV L) d.t (d, (⟨la, lc, ta, tc, va, vc⟩ : DocA))).Perm (docKV (L ++ [(d, ⟨la, lc, ta, tc, va, vc⟩)])) := by
    rw [putt_new _ _ _ fun q hq => by
      obtain ⟨y, hy, rfl⟩ := List.mem_map.1 hq
      exact hn y.1 (by rw [← hL]; exact List.mem_map_of_mem hy)]
    unfold docKV
    rw [List.map_append]
    exact List.Perm.refl _
  have hA : SV.dens ε [.map 0 0, .agg (tidS d.t), .agg (docS d (.raw 0 1) (.raw 0 2) (.raw 0 3))] = SV.dens ε [.map 0 0, .agg (tidS d.t), .agg (docSA d ⟨la, lc, ta, tc, va, vc⟩)] := by
    simp only [SV.dens, SV.den, docS, docSA, hvl, hvt, hvv]
  rw [hA] at hx
  have := (upd_docs L (L ++ [(d, ⟨la, lc, ta, tc, va, vc⟩)]) (d, ⟨la, lc, ta, tc, va, vc⟩) ht hp o ho).2 ε ρ R w hx hM2
  exact res_mono (fun u w' ⟨x, h1, h2⟩ => ⟨x, h1, by
    have h2 : Mem (docsF (L ++ [(d, ⟨la, lc, ta, tc, va, vc⟩)]) (eset ε 1 x 0 0).1 (eset ε 1 x 0 0).2 :: R) w' := h2
    have h3 : Mem (docsX (ds ++ [d]) (eset ε 1 x 0 0).1 (eset ε 1 x 0 0).2 :: R) w' := Mem.in_ex ⟨L ++ [(d, ⟨la, lc, ta, tc, va, vc⟩)], by rw [List.map_append, hL]; rfl⟩ h2
    exact h3⟩) this
end Go.Proofs.YtlekbdpdlalhbaaGreat
end
section
namespace Go.Proofs.YtlekbdpdlalhbaaGreat
set_option maxRecDepth 100000
open Go.RowKit Go.Lib Go.Tk Go.Shelf Go.Vc Go.Sx Go.Maps
set_option linter.unusedVariables false
set_option linter.unusedSimpArgs false
theorem clone_v {f : Nat} {kt : TypeId} {κ α : Type} {K : KeyKind Tryz.prog kt κ} {enc : α → Value} {L : List (κ × α)} (k m : Nat)
    (hf : ∀ (b : Nat) (es : Array MapEntry) (clock : Nat) (w : World), w.heap[b]? = some (.map es clock) → Calls Tryz.prog f #[.map (some b)] w fun e w' => e = .returned (.map (some w.heap.size)) ∧ w' = w.alloc (.map es clock)) :
    CallOK Tryz.prog f [.val (.map (some m))] [((0, k), .fam fun _ _ => mapC K m (ents enc L))] [] (.map 1 0) [((1, 0), .fam (mapT K enc L))] := by
  intro ε R w hM
  have hM : Mem (mapC K m (ents enc L) :: R) w := hM
  obtain ⟨es, clock, hb, h2⟩ := hM.map 0 rfl
  refine (hf m es clock w hb).mono ?_
  rintro e w' ⟨rfl, rfl⟩
  have h1 : Mem (mapC K w.heap.size (ents enc L) :: mapC K m (ents enc L) :: R) (w.alloc (.map es clock)) := hM.fresh (below_alloc _ _) (fun k => k = w.heap.size) ⟨rfl, es, clock, show (w.heap.push _)[w.heap.size]? = _ from Array.getElem?_push_size, h2⟩ (fun k hk => by subst hk; exact ⟨Nat.le_refl _, by simp⟩)
  have h1 := h1.front 1 rfl
  have e1 : ∀ x : Nat → Nat × Value, eset ε 1 x 1 = x := fun x => by simp [eset]
  refine ⟨fun _ => (w.heap.size, undef), by simp only [SV.den]; rw [e1], ?_⟩
  show Mem (mapC K m (ents enc L) :: mapC K (eset ε 1 _ 1 0).1 (ents enc L) :: R) _
  rw [e1]
  exact h1
theorem perm_lift {α β : Type} {f : α → β} : ∀ (r : List β) (l : List α), r.Perm (l.map f) → ∃ l', l'.map f = r ∧ l.Perm l'
  | [], l, h => by
    have : l = [] := List.map_eq_nil_iff.1 (List.nil_perm.1 h)
    subst this
    exact ⟨[], rfl, List.Perm.refl _⟩
  | x :: r, l, h => by
    obtain ⟨p, l', hp, hl, hr⟩ := perm_head' h
    obtain ⟨l2, h2, h3⟩ := perm_lift r l' hr
    exact ⟨p :: l2, by rw [List.map_cons, hp, h2], hl.trans (h3.cons p)⟩
theorem docsX_perm {ds ds' : List DocV} (hp : ds'.Perm ds) {b : Nat} {v : Value} {S : Nat → Prop} {w : World} (h : (docsX ds b v).at_ S w) : (docsX ds' b v).at_ S w := by
  obtain ⟨⟨L, hL⟩, h⟩ := h
  obtain ⟨L', h1, h2⟩ := perm_lift ds' L (by rw [hL]; exact hp)
  refine ⟨⟨L', h1⟩, ⟨h.1.1, h.1.2.perm ?_⟩, ?_⟩
  · unfold ents docKV
    exact (h2.map _).map _
  · obtain ⟨Sd, g1, g2, -⟩ := h.2
    exact ⟨Sd, g1, fun p hp => g2 p (h2.mem_iff.2 hp), fun p hp => by cases hp⟩
def CloneBF : Nat := 17
abbrev DocL (B : BookV) := { L : List (DocV × DocA) // L.map (·.1) = B.docs }
def oldB (B : BookV) (a : BkA) : SC := .box none [.val (.int .u8 B.self), .val (.int .i64 B.n), .val (.map (some a.d)), .val (.map (some a.o)), .val (.map (some a.h))]
def oldH (B : BookV) (a : BkA) : Heap := [((0, 0), oldB B a), ((0, 2), .fam fun _ _ => mapC kidK a.o (ents ownW B.owns)), ((0, 3), .fam fun _ _ => mapC kidK a.h (ents heldW B.helds))]
def newB (B : BookV) : Heap := [((1, 0), .box none [.val (.int .u8 B.self), .val (.int .i64 B.n), .map 1 1, .map 1 2, .map 1 3]), ((1, 2), ownsF B.owns), ((1, 3), heldsF B.helds)]
theorem clone_b (B : BookV) (hk : ∀ d ∈ B.docs, TidOk d.t ∧ DocSmall d) (hn : (B.docs.map (·.t)).Nodup) : CallOK Tryz.prog CloneBF [.ptr 0 0 0] [] (bkC B) (.ptr 1 0 0) (bkC B ++ [((1, 0), .fam (bookF B))]) := by
  refine callOK_intro (by kernel_rfl) fun eb R => ?_
  refine go_open (X := BkA × DocL B) (fun x => oldH B x.1 ++ [((0, 1), .fam fun _ _ => mapC tidK x.1.d (ents docW (docKV x.2.1))), ((0, 5), .fam fun _ _ => rowsC x.2.1)])
    (fun ε w hM => by
      obtain ⟨a, h⟩ := Mem.ex hM
      have h2 := h.all.front 1 rfl
      obtain ⟨L, h3⟩ := Mem.ex h2
      have h4 := docs_split h3
      exact ⟨(a, L), ((h4.front 4 rfl).front 4 rfl).front 4 rfl⟩) (fun x => by kernel_rfl) fun x => ?_
  obtain ⟨a, L, hL⟩ := x
  have c1 := clone_v (K := kidK) (enc := ownW) (L := B.owns) 2 a.o cloneO_any
  have c2 := clone_v (K := kidK) (enc := heldW) (L := B.helds) 3 a.h cloneH_any
  refine leaf_cut (rgK Tryz.prog CloneBF 4 []) [(0, .ptr 0 0 0), (3, .ptr 1 0 0)] (oldH B a ++ [((0, 1), .fam fun _ _ => mapC tidK a.d (ents docW (docKV L))), ((0, 5), .fam fun _ _ => rowsC L)] ++ newB B ++ [((1, 1), .obj [] 0)]) calNone false 400 [hC 3 13 c1, hC 3 18 c2, .stop 4] calNone_ok (by kernel_rfl) ?_
  refine go_open (X := Unit) (fun _ => [((1, 1), .fam (docsX []))] ++ (oldH B a ++ [((0, 1), .fam fun _ _ => mapC tidK a.d (ents docW (docKV L))), ((0, 5), .fam fun _ _ => rowsC L)] ++ newB B)) (fun ε w hM => by
      have h1 : Mem (docsX [] (ε 1 1).1 (ε 1 1).2 :: (hden ε (oldH B a ++ [((0, 1), .fam fun _ _ => mapC tidK a.d (ents docW (docKV L))), ((0, 5), .fam fun _ _ => rowsC L)] ++ newB B) ++ R)) w := (hM.front 8 rfl).weaken (c' := docsX [] (ε 1 1).1 (ε 1 1).2) (fun S hS => obj_docs hS)
      exact ⟨(), h1⟩) (fun x => by kernel_rfl) fun _ => ?_
  have r1 := rangeG (P := Tryz.prog) (K := tidK) (t := DT) (m := a.d) (j := 1) (L := ents docW (docKV L)) Tryz.underlying133
  have d1 := next_doneG (P := Tryz.prog) (K := tidK) (m := a.d) (L := ents docW (docKV L))
  refine go_loop (X := { x : List (Tid × (DocV × DocA)) × List (Tid × (DocV × DocA)) // (docKV L).Perm (x.1 ++ x.2) }) 0 [] (fun x => ([(0, .ptr 0 0 0), (3, .ptr 1 0 0), (33, .ptr 1 9 0)],
      oldH B a ++ [((0, 5), .fam fun _ _ => rowsC L), ((1, 9), .fam fun r _ => rngC tidK r a.d (ents docW (docKV L)) (ents docW x.1.2))] ++ newB B ++ [((1, 1), .fam (docsX (x.1.1.map (·.2.1))))]))
    (fun x => x.1.2.length) ⟨([], docKV L), List.Perm.refl _⟩ calNone false 400 [hG 4 4 r1] calNone_ok (by kernel_rfl) ?_
  rintro ⟨⟨done, left⟩, hd⟩ J hJ
  cases left with
  | cons x l =>
    have m1 := next_moreG (P := Tryz.prog) (K := tidK) (m := a.d) (L := ents docW (docKV L)) (left := ents docW (x :: l)) (by simp [ents])
    refine leaf_cut (rgK Tryz.prog CloneBF 6 [J]) [(0, .ptr 0 0 0), (3, .ptr 1 0 0), (33, .ptr 1 9 0)]
      ([((1, 9), .fam fun r _ => exC fun (y : (Tid × Value) × List (Tid × Value)) => curC tidK r a.d (ents docW (docKV L)) (ents docW (x :: l)) y.1 y.2)] ++ (oldH B a ++ [((0, 5), .fam fun _ _ => rowsC L)] ++ newB B ++ [((1, 1), .fam (docsX (done.map (·.2.1))))]))
      calNone false 400 [hG 5 0 m1, .stop 6] calNone_ok (by kernel_rfl) ?_
    refine go_open (X := { y : (Tid × (DocV × DocA)) × List (Tid × (DocV × DocA)) // (x :: l).Perm (y.1 :: y.2) }) (fun y => [((1, 9), .fam fun r _ => curC tidK r a.d (ents docW (docKV L)) (ents docW (x :: l)) (y.1.1.1, docW y.1.1.2) (ents docW y.1.2))] ++ (oldH B a ++ [((0, 5), .fam fun _ _ => rowsC L)] ++ newB B ++ [((1, 1), .fam (docsX (done.map (·.2.1))))]))
      (fun ε w hM => by obtain ⟨y, h⟩ := cur_typed hM; exact ⟨y, h⟩) (fun y => by kernel_rfl) ?_
    rintro ⟨⟨⟨k, p⟩, l'⟩, hp⟩
    have hd' : (docKV L).Perm ((done ++ [(k, p)]) ++ l') := by
      rw [List.append_assoc]
      exact hd.trans (List.Perm.append_left done hp)
    have hlt : l'.length < (x :: l).length := by have := hp.length_eq; simp only [List.length_cons] at this ⊢; omega
    have hmem : (k, p) ∈ docKV L := hd'.mem_iff.2 (by simp)
    obtain ⟨q, hq, hqe⟩ := List.mem_map.1 hmem
    injection hqe with e1 e2
    subst e2
    subst e1
    have hb : q.1 ∈ B.docs := by rw [← hL]; exact List.mem_map_of_mem hq
    have g1 := entryG (P := Tryz.prog) (K := tidK) (m := a.d) (L := ents docW (docKV L)) (left := ents docW (x :: l)) (left' := ents docW l') (p := (q.1.t, docW q)) (ks := .agg (tidS q.1.t)) (vs := .agg (docSA q.1 q.2)) (fun _ => rfl) (fun _ => rfl)
    have c3 := copied_rows L q hq (hk q.1 hb).2
    have hfresh : ∀ z ∈ done.map (·.2.1), z.t ≠ q.1.t := by
      have hnk : ((docKV L).map (·.1)).Nodup := by rw [docKV_map, hL]; exact hn
      have h5 := (hd'.map (·.1)).nodup_iff.1 hnk
      rw [List.map_append, List.map_append] at h5
      intro z hz
      obtain ⟨y, hy, rfl⟩ := List.mem_map.1 hz
      have hy2 : y ∈ docKV L := hd'.mem_iff.2 (List.mem_append_left _ (List.mem_append_left _ hy))
      obtain ⟨y', -, hye⟩ := List.mem_map.1 hy2
      intro e
      refine (List.nodup_append.1 (List.nodup_append.1 h5).1).2.2 y.1 (List.mem_map_of_mem hy) q.1.t (by simp) ?_
      rw [← hye] at e ⊢
      exact e
    have g2 := upd_docsN (done.map (·.2.1)) q.1 (hk q.1 hb).1 hfresh
    have ee : (done ++ [(q.1.t, q)]).map (·.2.1) = done.map (·.2.1) ++ [q.1] := by rw [List.map_append]; rfl
    rw [← ee] at g2
    exact leaf_round (lpK Tryz.prog CloneBF 0 []) false 400 [hG 6 0 g1, hC 7 6 c3, hG 7 7 g2] (hJ ⟨(done ++ [(q.1.t, q)], l'), hd'⟩ hlt) (by kernel_rfl)
  | nil =>
    rw [List.append_nil] at hd
    have hds : B.docs.Perm (done.map (·.2.1)) := by
      have := hd.map (·.2.1)
      unfold docKV at this
      rw [List.map_map] at this
      rw [← hL]
      exact this
    refine leaf_cut (rgK Tryz.prog CloneBF 8 []) [(3, .ptr 1 0 0)]
      (oldH B a ++ [((0, 5), .fam fun _ _ => rowsC L), ((1, 9), .fam fun r _ => rngC tidK r a.d (ents docW (docKV L)) [])] ++ newB B ++ [((1, 1), .fam (docsX (done.map (·.2.1))))])
      calNone false 400 [hG 5 0 d1, .stop 8] calNone_ok (by kernel_rfl) ?_
    refine go_open (X := Unit) (fun _ => [((0, 0), .fam (bookF B)), ((1, 0), .fam (bookF B))]) (fun ε w hM => ⟨(), by
      have hM : Mem (boxE none (ε 0 0).1 #[.int .u8 B.self, .int .i64 B.n, .map (some a.d), .map (some a.o), .map (some a.h)] :: mapC kidK a.o (ents ownW B.owns) :: mapC kidK a.h (ents heldW B.helds) :: rowsC L :: rngC tidK (ε 1 9).1 a.d (ents docW (docKV L)) [] :: boxE none (ε 1 0).1 #[.int .u8 B.self, .int .i64 B.n, .map (some (ε 1 1).1), .map (some (ε 1 2).1), .map (some (ε 1 3).1)] :: mapT kidK ownW B.owns (ε 1 2).1 (ε 1 2).2 :: mapT kidK heldW B.helds (ε 1 3).1 (ε 1 3).2 :: docsX (done.map (·.2.1)) (ε 1 1).1 (ε 1 1).2 :: R) w := hM
      have h1 := (hM.front 8 rfl).weaken (c' := docsX B.docs (ε 1 1).1 undef) fun S hS => docsX_perm hds hS
      have h2 := (h1.front 5 rfl).weaken (c' := mapC tidK a.d (ents docW (docKV L))) fun S hS => ⟨hS.2.1, hS.2.2.map⟩
      have h3 := docs_shut (v := undef) ((h2.front 5 rfl).front 1 rfl)
      have h4 : Mem (docsX B.docs a.d undef :: _) w := Mem.in_ex ⟨L, hL⟩ h3
      have h5 := (((h4.front 7 rfl).front 7 rfl).front 3 rfl).front 7 rfl
      have h6 := Mem.in_ex (f := fun y : BkA => allC [boxE none (ε 1 0).1 #[.int .u8 B.self, .int .i64 B.n, .map (some y.d), .map (some y.o), .map (some y.h)], docsX B.docs y.d undef, mapT kidK ownW B.owns y.o undef, mapT kidK heldW B.helds y.h undef]) ⟨(ε 1 1).1, (ε 1 2).1, (ε 1 3).1⟩ (Mem.in_all (l := [_, _, _, _]) h5)
      have h7 := (((h6.front 4 rfl).front 4 rfl).front 3 rfl).front 4 rfl
      exact Mem.in_ex (f := fun y : BkA => allC [boxE none (ε 0 0).1 #[.int .u8 B.self, .int .i64 B.n, .map (some y.d), .map (some y.o), .map (some y.h)], docsX B.docs y.d undef, mapT kidK ownW B.owns y.o undef, mapT kidK heldW B.helds y.h undef]) a (Mem.in_all (l := [_, _, _, _]) h7)⟩) (fun _ => by kernel_rfl) fun _ => ?_
    exact leaf_end calNone false 400 [] calNone_ok (by kernel_rfl)
end Go.Proofs.YtlekbdpdlalhbaaGreat
end
section
namespace Go.Proofs.YtlekbdpdlalhbaaGreat
set_option maxRecDepth 100000
open Go.RowKit Go.Lib Go.Tk Go.Shelf Go.Vc Go.Sx Go.Maps
set_option linter.unusedVariables false
set_option linter.unusedSimpArgs false

theorem len_val {kt : TypeId} {κ : Type} {K : KeyKind Tryz.prog kt κ} {m j n : Nat} {L : List (κ × Value)} (hn : L.length = n) :
    OpG Tryz.prog (isLenM Tryz.prog) lenX [.val (.map (some m))] [((0, j), .fam fun _ _ => mapC K m L)] [] (.val (.int .i64 (n : Int))) [] := by
  intro o ho
  unfold isLenM at ho
  split at ho <;> try (cases ho; done)
  rename_i c hop
  split at ho <;> try (cases ho; done)
  rename_i hc
  split at ho <;> try (cases ho; done)
  rename_i x t' ha ht
  split at ho <;> try (cases ho; done)
  rename_i k' e' hT
  have hx' : lenX o = [x] := by unfold lenX; rw [hop]; exact ha
  rw [hx']
  refine ⟨fun q hq => by rw [hop]; simp [Op.operands, Call.operands, hc]; have := arr_one ha; rw [this]; simpa using hq, fun ε ρ R w hx hM => ?_⟩
  simp only [List.map_cons, List.map_nil, SV.dens, SV.den, List.cons.injEq, and_true] at hx
  have hM : Mem (mapC K m L :: R) w := hM
  obtain ⟨es, clock, hb, hp, -⟩ := hM.of 0 rfl (φ := MapAt K w m L) (fun S hS => hS.2)
  have hlen : es.size = n := by have := hp.length_eq; simp at this; omega
  have := x_lenM (P := Tryz.prog) (ρ := ρ) (o := o) (w := w) hop hc (arr_one ha) ht hx hT hb
  rw [hlen] at this
  exact res_ok this ⟨fun _ => (0, undef), by simp only [SV.den], hM⟩
/-- do two maps have the same? -/
def sameM {κ α : Type} [DecidableEq κ] [DecidableEq α] (L M : List (κ × α)) : Bool := decide (L.length = M.length) && L.all fun p => decide (lkt M p.1 = some p.2)
theorem sameM_self {κ α : Type} [DecidableEq κ] [DecidableEq α] {L : List (κ × α)} (h : (L.map (·.1)).Nodup) : sameM L L = true := by
  unfold sameM
  rw [decide_eq_true rfl, Bool.true_and, List.all_eq_true]
  exact fun p hp => decide_eq_true (lkt_of h hp)
theorem sameM_len {κ α : Type} [DecidableEq κ] [DecidableEq α] {L M : List (κ × α)} (h : L.length ≠ M.length) : sameM L M = false := by
  unfold sameM; rw [decide_eq_false h]; rfl
theorem sameM_bad {κ α : Type} [DecidableEq κ] [DecidableEq α] {L M : List (κ × α)} {p : κ × α} (hp : p ∈ L) (h : lkt M p.1 ≠ some p.2) : sameM L M = false := by
  unfold sameM
  rw [Bool.and_eq_false_iff]
  refine .inr ?_
  rw [Bool.eq_false_iff]
  intro e
  exact h (of_decide_eq_true (List.all_eq_true.1 e p hp))
theorem sameM_mk {κ α : Type} [DecidableEq κ] [DecidableEq α] {L M : List (κ × α)} (hl : L.length = M.length) (h : ∀ p ∈ L, lkt M p.1 = some p.2) : sameM L M = true := by
  unfold sameM
  rw [decide_eq_true hl, Bool.true_and, List.all_eq_true]
  exact fun p hp => decide_eq_true (h p hp)
/-- two coupons compared, cell by cell -/
def legEq (a b : Leg) : Bool := decide (a.c = b.c) && (decide (a.f = b.f) && (decide (a.x = b.x) && true))
def cpnEq (a b : Cpn) : Bool := legEq a.l b.l && (decide (a.v = b.v) && (decide (a.s = b.s) && (decide (a.n = b.n) && true)))
def ownEq (a b : OwnV) : Bool := cpnEq a.k b.k && ((a.away == b.away) && (decide (a.dst = b.dst) && ((a.paid == b.paid) && ((a.asked == b.asked) && true))))
def heldEq (a b : HeldV) : Bool := cpnEq a.k b.k && ((a.here == b.here) && ((a.paid == b.paid) && ((a.wanted == b.wanted) && ((a.billed == b.billed) && true))))
theorem cpnEq_iff (a b : Cpn) : cpnEq a b = true ↔ a = b := by
  obtain ⟨⟨a1, a2, a3⟩, a4, a5, a6⟩ := a
  obtain ⟨⟨b1, b2, b3⟩, b4, b5, b6⟩ := b
  simp [cpnEq, legEq, and_assoc]
theorem ownEq_iff (a b : OwnV) : ownEq a b = true ↔ a = b := by
  obtain ⟨a1, a2, a3, a4, a5⟩ := a
  obtain ⟨b1, b2, b3, b4, b5⟩ := b
  unfold ownEq
  rw [Bool.and_eq_true, cpnEq_iff]
  simp
theorem heldEq_iff (a b : HeldV) : heldEq a b = true ↔ a = b := by
  obtain ⟨a1, a2, a3, a4, a5⟩ := a
  obtain ⟨b1, b2, b3, b4, b5⟩ := b
  unfold heldEq
  rw [Bool.and_eq_true, cpnEq_iff]
  simp
theorem ownEq_no {a b : OwnV} (h : a ≠ b) : ownEq a b = false := by
  cases e : ownEq a b with
  | false => rfl
  | true => exact absurd ((ownEq_iff a b).1 e) h
theorem heldEq_no {a b : HeldV} (h : a ≠ b) : heldEq a b = false := by
  cases e : heldEq a b with
  | false => rfl
  | true => exact absurd ((heldEq_iff a b).1 e) h
/-- what a map says that lies there -/
theorem map_facts {kt : TypeId} {κ α : Type} {K : KeyKind Tryz.prog kt κ} {enc : α → Value} {L : List (κ × α)} {m : Nat} {R : List Chunk} {w : World} (h : Mem (mapC K m (ents enc L) :: R) w) : (L.map (·.1)).Nodup ∧ ∀ p ∈ L, K.ok p.1 := by
  obtain ⟨es, clock, hb, hp, hn, hk, -⟩ := h.of 0 rfl (φ := MapAt K w m (ents enc L)) (fun S hS => hS.2)
  refine ⟨by unfold ents at hn; rwa [List.map_map] at hn, fun p hp' => ?_⟩
  exact hk (p.1, enc p.2) (List.mem_map_of_mem (f := fun p : κ × α => (p.1, enc p.2)) hp')
end Go.Proofs.YtlekbdpdlalhbaaGreat
end
section
namespace Go.Proofs.YtlekbdpdlalhbaaGreat
set_option maxRecDepth 100000
open Go.RowKit Go.Lib Go.Tk Go.Shelf Go.Vc Go.Sx
set_option linter.unusedVariables false
set_option linter.unusedSimpArgs false

def SetsF15 : Nat := 4
structure Act15Rd (F : CF) (x : Act15) : Prop where
  ok : SaleOk x.s
  hl : ∀ b v, Rd (F b v) x.A.la (cellsL encLeg x.s.legs)
  ht : ∀ b v, Rd (F b v) x.A.ta (cellsL encTax x.s.taxes)
  h1 : SlOk x.A.la x.s.legs.length x.A.lc
  h2 : SlOk x.A.ta x.s.taxes.length x.A.tc
  k : KidOk x.k
  o : OwnOk x.o
def setSl (a : Option Addr) (n cap i : Nat) : Slots := [(2, .val (.slice a n cap)), (7, .ptr 1 6 0), (9, .ptr 1 0 0), (11, .val (.int .i64 (i : Int)))]
def setH6 (F : CF) (x : Act15) (B : BookV) : Heap := [((0, 9), .fam F), ((1, 0), .fam (bookF B)), ((1, 6), .box none (act15X x))]
/-- behind all acts: the keys of others' coupons -/
theorem sets_keys (F : CF) {eb : Env} {R : List Chunk} {x : Act15} {B C : BookV} (eB0 : B.helds.length ≤ 64) (eC : C.helds.length ≤ 64) (hs : ∀ k, k ≠ x.k → lkt C.helds k = lkt B.helds k) (hko : ∀ k ∈ keysL B, KidOk k) :
    Go Tryz.prog SetsF15 (.val (.bool true)) ([((0, 9), .fam F)] ++ []) eb R .nrm (rgK Tryz.prog SetsF15 37 []) [(7, .ptr 1 6 0), (9, .ptr 1 0 0), (12, .ptr 1 5 0)] (setH6 F x C ++ [((1, 5), .fam (bookF B))]) := by
  have c1 := keys_c (B := B) (by omega)
  have c2 := keys_c (B := C) (by omega)
  have c9 := wakes15_w
  have lB : (keysL B).length = B.helds.length := keysL_len B
  have lC : (keysL C).length = C.helds.length := keysL_len C
  have n9 : decide (((keysL C).length : Int) ≤ 64) = true := decide_eq_true (by omega)
  generalize keysL C = lc at *
  generalize keysL B = l at *
  refine go_loop (X := { k : Nat // k ≤ l.length }) 3 [] (fun y => ([(7, .ptr 1 6 0), (9, .ptr 1 0 0), (12, .ptr 1 5 0), (27, .raw 1 7), (28, .val (.int .i64 (y.1 : Int)))], setH6 F x C ++ [((1, 5), .fam (bookF B)), ((1, 7), kidR l)])) (fun y => l.length - y.1) ⟨0, Nat.zero_le _⟩ calNone false 400 [hC 37 1 c1] calNone_ok (by kernel_rfl) ?_
  rintro ⟨k, hk⟩ J hJ
  by_cases h : k < l.length
  · have z0 : decide ((k : Int) < (l.length : Int)) = true := decide_eq_true (by omega)
    have hm : l.getD k kid0 ∈ l := List.mem_of_getElem? (getD_some h kid0)
    have ho := hko _ hm
    have q1 := load_eltG (P := Tryz.prog) (t := 27) (cs := kidS (l.getD k kid0)) (n := l.length) (p := 0) (j := 0) (b := k * 3) (E := 27) (size := 3) (u := .agg (kidS (l.getD k kid0))) (xs := cellsL kcL l) (by kernel_rfl) (cells_nth (enc := kcL) (encS := kidS) (fun _ _ => rfl) (fun _ => rfl) (getD_some h kid0))
    have c3 := held_c B ho
    have c4 := held_c C ho
    have z9 : IntKind.i64.wrap ((k : Int) + 1) = ((k + 1 : Nat) : Int) := by rw [wr_i64 (by omega)]; omega
    have hJ' := hJ ⟨k + 1, h⟩ (by show _ - (k + 1) < _ - k; omega)
    generalize l.getD k kid0 = key at *
    rcases Bool.eq_false_or_eq_true (kidEq key x.k) with e | e
    · have e : (!kidEq key x.k) = false := by rw [e]; rfl
      unfold kidEq at e
      exact leaf_round (lpK Tryz.prog SetsF15 3 []) false 400 [hB 39 3 _ _ z0, .opt 41 3 (.at_ 0 _ _ _ ⟨rfl, h⟩), hG 41 4 q1, hC 41 5 c3, .opt 42 3 (.at_ 0 _ _ _ ⟨rfl, h⟩), hG 42 4 q1, hC 42 5 c4, .opt 43 2 (.at_ 0 _ _ _ ⟨rfl, h⟩), hG 43 3 q1, hB 43 6 _ _ e, hI 40 1 IntKind.i64 _ _ z9] hJ' (by kernel_rfl)
    · rw [hs key (kidEq_no e)] at c4
      have e : (!kidEq key x.k) = true := by rw [e]; rfl
      unfold kidEq at e
      generalize lkt B.helds key = v at *
      have e1 : (!heldEq (v.getD held0) (v.getD held0)) = false := by rw [(heldEq_iff _ _).2 rfl]; rfl
      unfold heldEq cpnEq legEq at e1
      exact leaf_round (lpK Tryz.prog SetsF15 3 []) false 400 [hB 39 3 _ _ z0, .opt 41 3 (.at_ 0 _ _ _ ⟨rfl, h⟩), hG 41 4 q1, hC 41 5 c3, .opt 42 3 (.at_ 0 _ _ _ ⟨rfl, h⟩), hG 42 4 q1, hC 42 5 c4, .opt 43 2 (.at_ 0 _ _ _ ⟨rfl, h⟩), hG 43 3 q1, hB 43 6 _ _ e, hB 43 10 _ _ e1, hI 40 1 IntKind.i64 _ _ z9] hJ' (by kernel_rfl)
  · have z0 : decide ((k : Int) < (l.length : Int)) = false := decide_eq_false (by omega)
    exact leaf_end calNone false 400 [hB 39 3 _ _ z0, hC 45 1 c2, hB 45 3 _ _ n9, hC 45 5 c9] calNone_ok (by kernel_rfl)
/-- the coupons of the tickets -/
theorem sets_owns (F : CF) {eb : Env} {R : List Chunk} {x : Act15} {B C : BookV} (eB : ExOk B) (hs : ∀ k, k ≠ x.k → lkt C.owns k = lkt B.owns k)
    (fin : Go Tryz.prog SetsF15 (.val (.bool true)) ([((0, 9), .fam F)] ++ []) eb R .nrm (rgK Tryz.prog SetsF15 37 []) [(7, .ptr 1 6 0), (9, .ptr 1 0 0), (12, .ptr 1 5 0)] (setH6 F x C ++ [((1, 5), .fam (bookF B))])) :
    Go Tryz.prog SetsF15 (.val (.bool true)) ([((0, 9), .fam F)] ++ []) eb R .nrm (rgK Tryz.prog SetsF15 25 []) [(7, .ptr 1 6 0), (9, .ptr 1 0 0), (12, .ptr 1 5 0)] (setH6 F x C ++ [((1, 5), .fam (bookF B))]) := by
  have c1 := tickets_c eB.bk
  have hm := eB.bk.many
  have lB : (B.docs.map (·.t)).length = B.docs.length := List.length_map _
  refine go_loop (X := { k : Nat // k ≤ B.docs.length }) 1 [] (fun y => ([(7, .ptr 1 6 0), (9, .ptr 1 0 0), (12, .ptr 1 5 0), (19, .raw 1 1), (20, .val (.int .i64 (y.1 : Int)))], setH6 F x C ++ [((1, 5), .fam (bookF B)), ((1, 1), tidR (B.docs.map (·.t)))])) (fun y => B.docs.length - y.1) ⟨0, Nat.zero_le _⟩ calNone false 400 [hC 25 1 c1] calNone_ok (by kernel_rfl) ?_
  rintro ⟨k, hk⟩ J hJ
  by_cases h : k < B.docs.length
  · have z0 : decide ((k : Int) < ((B.docs.map (·.t)).length : Int)) = true := decide_eq_true (by omega)
    have hd := List.getElem?_eq_getElem h
    generalize B.docs[k] = d at hd
    have t0 := tid_docs eB.bk (List.mem_of_getElem? hd)
    have hkl : k < (B.docs.map (·.t)).length := by omega
    have q1 := load_eltG (P := Tryz.prog) (t := 25) (cs := tidS d.t) (n := (B.docs.map (·.t)).length) (p := 0) (j := 0) (b := k * 2) (E := 25) (size := 2) (u := .agg (tidS d.t)) (by kernel_rfl) (tid_nth (tids_get hd))
    have z9 : IntKind.i64.wrap ((k : Int) + 1) = ((k + 1 : Nat) : Int) := by rw [wr_i64 (by omega)]; omega
    have hJ' := hJ ⟨k + 1, h⟩ (by show _ - (k + 1) < _ - k; omega)
    refine go_loop (X := { j : Nat // j ≤ 4 }) 2 [J] (fun y => ([(7, .ptr 1 6 0), (9, .ptr 1 0 0), (12, .ptr 1 5 0), (19, .raw 1 1), (20, .val (.int .i64 (k : Int))), (21, .val (.int .i64 (y.1 : Int)))], setH6 F x C ++ [((1, 5), .fam (bookF B)), ((1, 1), tidR (B.docs.map (·.t)))])) (fun y => 4 - y.1) ⟨0, Nat.zero_le _⟩ calNone false 400 [hB 27 3 _ _ z0] calNone_ok (by kernel_rfl) ?_
    rintro ⟨j, hj⟩ J2 hJ2
    by_cases h4 : j < 4
    · have y0 : decide ((j : Int) < 4) = true := decide_eq_true (by omega)
      have y1 : IntKind.u8.wrap (j : Int) = (j : Int) := wr_u8 (by omega)
      have c2 := own_c B (k := ⟨d.t, (j : Int)⟩) (kidOk_at t0 (by omega) (by omega))
      have c3 := own_c C (k := ⟨d.t, (j : Int)⟩) (kidOk_at t0 (by omega) (by omega))
      have y2 : IntKind.i64.wrap ((j : Int) + 1) = ((j + 1 : Nat) : Int) := by rw [wr_i64 (by omega)]; omega
      have hJ2' := hJ2 ⟨j + 1, h4⟩ (by show _ - (j + 1) < _ - j; omega)
      rcases Bool.eq_false_or_eq_true (kidEq ⟨d.t, (j : Int)⟩ x.k) with e | e
      · have e : (!kidEq ⟨d.t, (j : Int)⟩ x.k) = false := by rw [e]; rfl
        unfold kidEq at e
        exact leaf_round (lpK Tryz.prog SetsF15 2 [J]) false 400 [hB 30 1 _ _ y0, .opt 32 2 (.at_ 0 _ _ _ ⟨rfl, hkl⟩), hG 32 3 q1, hI 32 5 IntKind.u8 _ _ y1, hC 33 2 c2, hC 34 2 c3, hB 35 3 _ _ e, hI 31 1 IntKind.i64 _ _ y2] hJ2' (by kernel_rfl)
      · rw [hs _ (kidEq_no e)] at c3
        have e : (!kidEq ⟨d.t, (j : Int)⟩ x.k) = true := by rw [e]; rfl
        unfold kidEq at e
        generalize lkt B.owns ⟨d.t, (j : Int)⟩ = v at *
        have e1 : (!ownEq (v.getD own0) (v.getD own0)) = false := by rw [(ownEq_iff _ _).2 rfl]; rfl
        unfold ownEq cpnEq legEq at e1
        exact leaf_round (lpK Tryz.prog SetsF15 2 [J]) false 400 [hB 30 1 _ _ y0, .opt 32 2 (.at_ 0 _ _ _ ⟨rfl, hkl⟩), hG 32 3 q1, hI 32 5 IntKind.u8 _ _ y1, hC 33 2 c2, hC 34 2 c3, hB 35 3 _ _ e, hB 35 7 _ _ e1, hI 31 1 IntKind.i64 _ _ y2] hJ2' (by kernel_rfl)
    · have he : j = 4 := by omega
      subst he
      exact leaf_round (lpK Tryz.prog SetsF15 1 []) false 400 [hI 28 1 IntKind.i64 _ _ z9] hJ' (by kernel_rfl)
  · have z0 : decide ((k : Int) < ((B.docs.map (·.t)).length : Int)) = false := decide_eq_false (by omega)
    exact leaf_cut (rgK Tryz.prog SetsF15 37 []) _ _ calNone false 400 [hB 27 3 _ _ z0, .stop 37] calNone_ok (by kernel_rfl) fin
theorem book_keys {B : BookV} {b : Nat} {v : Value} {R : List Chunk} {w : World} (h : Mem (bookF B b v :: R) w) : ∀ p ∈ B.helds, KidOk p.1 := by
  obtain ⟨a, h1⟩ := Mem.ex h
  have h4 : Mem (mapC kidK a.h (ents heldW B.helds) :: _) w := h1.all.front 3 rfl
  exact (map_facts h4).2
/-- behind the acts ahead -/
theorem sets_end (F : CF) {eb : Env} {R : List Chunk} {x : Act15} (hkx : KidOk x.k) (hox : OwnOk x.o) {B : BookV} (eB : BI B) :
    Go Tryz.prog SetsF15 (.val (.bool true)) ([((0, 9), .fam F)] ++ []) eb R .nrm (rgK Tryz.prog SetsF15 16 []) [(7, .ptr 1 6 0), (9, .ptr 1 0 0)] (setH6 F x B) := by
  refine go_open (X := { u : Unit // ∀ p ∈ B.helds, KidOk p.1 }) (fun _ => [((1, 0), .fam (bookF B)), ((0, 9), .fam F), ((1, 6), .box none (act15X x))]) (fun ε w hM => by
    have h1 := Mem.front (c := bookF B (ε 1 0).1 (ε 1 0).2) hM 1 rfl
    exact ⟨⟨(), book_keys h1⟩, h1⟩) (fun _ => by kernel_rfl) ?_
  rintro ⟨-, hko⟩
  have hko' : ∀ k ∈ keysL B, KidOk k := fun k hk => by
    obtain ⟨p, hp, rfl⟩ := List.mem_map.1 ((sortBy_perm cfK (B.helds.map (·.1))).mem_iff.1 hk)
    exact hko p hp
  have c0 := clone_b B (fun d hd => ⟨tid_docs eB.ex.bk hd, eB.ex.sm d hd⟩) eB.ex.bk.nodup
  have c1 := setOwn_c B hkx x.o
  have e1 := eB.setO (k := x.k) hox
  have c2 := own_c (B.setO x.k x.o) hkx
  have c3 := setHeld_c (B.setO x.k x.o) hkx x.h
  have e2 := e1.setH x.k x.h
  have c4 := held_c ((B.setO x.k x.o).setH x.k x.h) hkx
  have hown : ∀ k, k ≠ x.k → lkt ((B.setO x.k x.o).setH x.k x.h).owns k = lkt B.owns k := fun k hk => by
    rw [(setH_same _ _ _).2.2.2, setO_lk, if_neg fun e => hk e.symm]
  have hheld : ∀ k, k ≠ x.k → lkt ((B.setO x.k x.o).setH x.k x.h).helds k = lkt B.helds k := fun k hk => by
    rw [setH_ne fun e => hk e.symm, (setO_same _ _ _).2.2.2]
  have fin := sets_owns F (eb := eb) (R := R) (x := x) eB.ex hown (sets_keys F (eb := eb) (R := R) eB.hl e2.hl hheld hko')
  clear hown hheld hko hko'
  have hlk := setO_lk (B := B) (k := x.k) (o := x.o) x.k
  rw [if_pos rfl] at hlk
  have hbad := fun h => e1.hk x.k h
  have hcs := setHE_cases (B.setO x.k x.o) x.k
  have hset := fun h => setH_ok (B := B.setO x.k x.o) (k := x.k) h x.h
  have hnot := fun h => setH_not (B := B.setO x.k x.o) (k := x.k) h x.h
  have e9 : (!ownEq x.o x.o) = false := by rw [(ownEq_iff _ _).2 rfl]; rfl
  unfold ownEq cpnEq legEq at e9
  have e8 : (!heldEq x.h x.h) = false := by rw [(heldEq_iff _ _).2 rfl]; rfl
  unfold heldEq cpnEq legEq at e8
  -- held: three ways
  have key : Go Tryz.prog SetsF15 (.val (.bool true)) ([((0, 9), .fam F)] ++ []) eb R .nrm (rgK Tryz.prog SetsF15 21 []) [(7, .ptr 1 6 0), (9, .ptr 1 0 0), (12, .ptr 1 5 0)] (setH6 F x (B.setO x.k x.o) ++ [((1, 5), .fam (bookF B))]) := by
    rcases hcs with ⟨g, gb⟩ | ⟨g, gb, gn, -⟩ | ⟨g, gb, -⟩
    · have hn : lkt (B.setO x.k x.o).helds x.k = none := by
        cases hq : lkt (B.setO x.k x.o).helds x.k with
        | none => rfl
        | some y => rw [hbad y hq] at gb; cases gb
      have hc := hnot (by rw [g]; decide)
      rw [hc] at c4 fin c3
      rw [hn] at c4
      rw [g] at c3
      clear hc hn hlk hbad hset hnot
      exact leaf_cut (rgK Tryz.prog SetsF15 25 []) _ _ calNone false 400 [hC 21 5 c3, hC 22 3 c4, .stop 25] calNone_ok (by kernel_rfl) fin
    · have hc := hnot (by rw [g]; decide)
      rw [hc] at c4 fin c3
      rw [gn] at c4
      rw [g] at c3
      clear hc gn hlk hbad hset hnot
      exact leaf_cut (rgK Tryz.prog SetsF15 25 []) _ _ calNone false 400 [hC 21 5 c3, hC 22 3 c4, .stop 25] calNone_ok (by kernel_rfl) fin
    · have hl : lkt ((B.setO x.k x.o).setH x.k x.h).helds x.k = some x.h := by
        rw [hset g]
        show lkt (putt _ _ _) _ = _
        rw [lkt_put, if_pos rfl]
      rw [hl] at c4
      rw [g] at c3
      clear hl hlk hbad hset hnot
      exact leaf_cut (rgK Tryz.prog SetsF15 25 []) _ _ calNone false 400 [hC 21 5 c3, hC 22 3 c4, hB 23 16 _ _ e8, .stop 25] calNone_ok (by kernel_rfl) fin
  clear fin hcs hbad hset hnot c3 c4
  cases hl : lkt B.owns x.k with
  | none =>
    rw [hl] at c1 hlk
    have hlk : lkt (B.setO x.k x.o).owns x.k = none := hlk
    rw [hlk] at c2
    clear hlk hl
    exact leaf_cut (rgK Tryz.prog SetsF15 21 []) _ _ calNone false 400 [hC 16 1 c0, hC 17 5 c1, hC 18 3 c2, .stop 21] calNone_ok (by kernel_rfl) key
  | some o =>
    rw [hl] at c1 hlk
    have hlk : lkt (B.setO x.k x.o).owns x.k = some x.o := hlk
    rw [hlk] at c2
    clear hlk hl
    exact leaf_cut (rgK Tryz.prog SetsF15 21 []) _ _ calNone false 400 [hC 16 1 c0, hC 17 5 c1, hC 18 3 c2, hB 19 10 _ _ e9, .stop 21] calNone_ok (by kernel_rfl) key
theorem sets15_law (F : CF) {self n : Int} (hs : 0 ≤ self ∧ self ≤ 255) {a : Option Addr} {cap : Nat} {acts : List Act15} {x : Act15} (hRa : ∀ b v, Rd (F b v) a (cellsL act15C acts)) (hl : acts.length ≤ 9223372036854775807) (hf : ∀ y ∈ acts, Lens y)
    (hA : greatB15 acts = false → ∀ y ∈ acts, Act15Rd F y) (hkx : KidOk x.k) (hox : OwnOk x.o) :
    CallOK Tryz.prog SetsF15 [.val (.int .u8 self), .val (.int .i64 n), .val (.slice a acts.length cap), .agg (act15X x)] [((0, 9), .fam F)] [] (.val (.bool true)) [] := by
  have c0 := great15_w F (cap := cap) hRa hl hf
  have c8 := great15_one x
  have c9 := wakes15_w
  rcases Bool.eq_false_or_eq_true (greatB15 acts) with g | g
  · rw [g] at c0
    exact callOK_run 400 [hC 1 1 c0, hC 2 0 c9] (by kernel_rfl) (by kernel_rfl)
  rw [g] at c0
  have hA := hA g
  have hlen := (greatB15_no g).1
  rcases Bool.eq_false_or_eq_true (greatX x) with g2 | g2
  · rw [g2] at c8
    exact callOK_run 400 [hC 1 1 c0, hC 1 5 c8, hC 2 0 c9] (by kernel_rfl) (by kernel_rfl)
  rw [g2] at c8
  by_cases hb : bookE self n = 0
  case neg =>
    have c1 := new_noC hs hb
    exact callOK_run 400 [hC 1 1 c0, hC 1 5 c8, hC 3 2 c1, hC 5 0 c9] (by kernel_rfl) (by kernel_rfl)
  have c1 := new_okC hs hb
  have hb0 := new_bi self n (bookE_ok hs.1 hb)
  clear hb
  generalize bookNew self n = B0 at *
  refine callOK_intro (by kernel_rfl) fun eb R => ?_
  refine go_loop (X := { i : Nat // i ≤ acts.length ∧ BI (run15 B0 acts i) }) 0 [] (fun y => (setSl a acts.length cap y.1, setH6 F x (run15 B0 acts y.1))) (fun y => acts.length - y.1) ⟨0, Nat.zero_le _, hb0⟩ calNone false 400 [hC 1 1 c0, hC 1 5 c8, hC 3 2 c1] calNone_ok (by kernel_rfl) ?_
  rintro ⟨i, hi, eB⟩ J hJ
  by_cases h : i < acts.length
  · have z0 : decide ((i : Int) < (acts.length : Int)) = true := decide_eq_true (by omega)
    have hin : acts.getD i act15Z ∈ acts := List.mem_of_getElem? (getD_some h act15Z)
    have ha := hA _ hin
    have q1 := idx_openG (P := Tryz.prog) (t := AT15) (e := 66) (size := 46) (j := 9) (k := .i64) (cap := cap) (n := acts.length) Tryz.underlying22 (by kernel_rfl) (acts15_len acts) hRa h
    have hpos : 0 < (cellsL act15C acts).length := by rw [acts15_len]; omega
    have nth := act15_nth h
    have q2 := load_openG (P := Tryz.prog) (t := 3) (k := i * 46) (j := 9) (u := .val (.int .i64 (acts.getD i act15Z).d)) 0 (by kernel_rfl) hRa nth hpos
    have q3 := load_openG (P := Tryz.prog) (t := 59) (k := i * 46) (j := 9) (u := .agg (salS (acts.getD i act15Z).s (.val (.slice (acts.getD i act15Z).A.la (acts.getD i act15Z).s.legs.length (acts.getD i act15Z).A.lc)) (.val (.slice (acts.getD i act15Z).A.ta (acts.getD i act15Z).s.taxes.length (acts.getD i act15Z).A.tc)))) 1 (by kernel_rfl) hRa nth hpos
    have q4 := load_openG (P := Tryz.prog) (t := 27) (k := i * 46) (j := 9) (u := .agg (kidS (acts.getD i act15Z).k)) 23 (by kernel_rfl) hRa nth hpos
    have q5 := load_openG (P := Tryz.prog) (t := 43) (k := i * 46) (j := 9) (u := .agg (ownS (acts.getD i act15Z).o)) 26 (by kernel_rfl) hRa nth hpos
    have q6 := load_openG (P := Tryz.prog) (t := 64) (k := i * 46) (j := 9) (u := .agg (heldS (acts.getD i act15Z).h)) 36 (by kernel_rfl) hRa nth hpos
    have z9 : IntKind.i64.wrap ((i : Int) + 1) = ((i + 1 : Nat) : Int) := by rw [wr_i64 (by omega)]; omega
    have hJ' : ∀ ε a' w, Rel (ntOf Tryz.prog SetsF15) 1 eb R ⟨setSl a acts.length cap (i + 1), setH6 F x (step15 (run15 B0 acts i) (acts.getD i act15Z)), 2⟩ ε a' w → J a' w := hJ ⟨i + 1, h, eB.step ha.ok ha.o⟩ (by show _ - (i + 1) < _ - i; omega)
    clear hJ
    show Go Tryz.prog SetsF15 (.val (.bool true)) ([((0, 9), .fam F)] ++ []) eb R .nrm (.code (lpB Tryz.prog SetsF15 0 []) :: .lp J :: lpK Tryz.prog SetsF15 0 []) (setSl a acts.length cap i) (setH6 F x (run15 B0 acts i))
    generalize run15 B0 acts i = B at *
    generalize acts.getD i act15Z = y at *
    unfold step15 at hJ'
    by_cases g0 : y.d = 0
    · simp only [if_pos g0] at hJ'
      have e0 : decide (y.d = 0) = true := decide_eq_true g0
      unfold BookV.issue at hJ'
      rcases Bool.eq_false_or_eq_true (decide (B.issE y.s = 0)) with e | e
      · have c2 := issue_okC F eB.ex.bk ha.ok ha.hl ha.ht ha.h1 ha.h2 (of_decide_eq_true e)
        simp only [e, cond_true] at hJ'
        clear e g0
        exact leaf_round (lpK Tryz.prog SetsF15 0 []) false 400 [hB 7 3 _ _ z0, hG 9 2 q1, hG 9 4 q2, hB 10 0 _ _ e0, hG 11 3 q1, hG 11 5 q3, hC 11 6 c2, hI 8 1 IntKind.i64 _ _ z9] hJ' (by kernel_rfl)
      · have c2 := issue_noC F eB.ex.bk ha.ok ha.hl ha.ht ha.h1 ha.h2 (of_decide_eq_false e)
        simp only [e, cond_false] at hJ'
        clear e g0
        exact leaf_round (lpK Tryz.prog SetsF15 0 []) false 400 [hB 7 3 _ _ z0, hG 9 2 q1, hG 9 4 q2, hB 10 0 _ _ e0, hG 11 3 q1, hG 11 5 q3, hC 11 6 c2, hI 8 1 IntKind.i64 _ _ z9] hJ' (by kernel_rfl)
    simp only [if_neg g0] at hJ'
    have e0 : decide (y.d = 0) = false := decide_eq_false g0
    clear g0
    by_cases g2 : y.d = 2
    · simp only [if_pos g2] at hJ'
      have e2 : decide (y.d = 2) = true := decide_eq_true g2
      clear g2
      have c2 := setOwn_c B ha.k y.o
      exact leaf_round (lpK Tryz.prog SetsF15 0 []) false 400 [hB 7 3 _ _ z0, hG 9 2 q1, hG 9 4 q2, hB 10 0 _ _ e0, hB 12 0 _ _ e2, hG 13 3 q1, hG 13 5 q4, hG 13 8 q1, hG 13 10 q5, hC 13 11 c2, hI 8 1 IntKind.i64 _ _ z9] hJ' (by kernel_rfl)
    simp only [if_neg g2] at hJ'
    have e2 : decide (y.d = 2) = false := decide_eq_false g2
    clear g2
    by_cases g3 : y.d = 3
    · simp only [if_pos g3] at hJ'
      have e3 : decide (y.d = 3) = true := decide_eq_true g3
      clear g3
      have c2 := setHeld_c B ha.k y.h
      exact leaf_round (lpK Tryz.prog SetsF15 0 []) false 400 [hB 7 3 _ _ z0, hG 9 2 q1, hG 9 4 q2, hB 10 0 _ _ e0, hB 12 0 _ _ e2, hB 14 0 _ _ e3, hG 15 3 q1, hG 15 5 q4, hG 15 8 q1, hG 15 10 q6, hC 15 11 c2, hI 8 1 IntKind.i64 _ _ z9] hJ' (by kernel_rfl)
    · simp only [if_neg g3] at hJ'
      have e3 : decide (y.d = 3) = false := decide_eq_false g3
      clear g3
      exact leaf_round (lpK Tryz.prog SetsF15 0 []) false 400 [hB 7 3 _ _ z0, hG 9 2 q1, hG 9 4 q2, hB 10 0 _ _ e0, hB 12 0 _ _ e2, hB 14 0 _ _ e3, hI 8 1 IntKind.i64 _ _ z9] hJ' (by kernel_rfl)
  · have z0 : decide ((i : Int) < (acts.length : Int)) = false := decide_eq_false (by omega)
    have fin := sets_end F (eb := eb) (R := R) hkx hox eB
    exact leaf_cut (rgK Tryz.prog SetsF15 16 []) _ _ calNone false 400 [hB 7 3 _ _ z0, .stop 16] calNone_ok (by kernel_rfl) fin
theorem act15Rd_of {w : World} {x : Act15} (h : Act15In w x) (h1 : x.s.legs.length ≤ 1000) (h2 : x.s.taxes.length ≤ 1000) : Act15Rd (fun _ _ => oldC w) x where
  ok := h.ok.small h1 h2
  hl := fun _ _ => rd_old h.at_.legs
  ht := fun _ _ => rd_old h.at_.taxes
  h1 := slOk_row h.at_.legs (fun _ e => by rw [cellsL_len encLeg_len] at e; omega) h.at_.lnil
  h2 := slOk_row h.at_.taxes (fun _ e => by rw [encTaxL_len] at e; omega) h.at_.tnil
  k := h.k
  o := h.ov
theorem lens_of {w : World} {x : Act15} (h : Act15In w x) : Lens x := ⟨maxLen_le h.ok.nl, maxLen_le h.ok.nt, maxLen_le h.ok.name, maxLen_le h.dvm, maxLen_le h.dok.nl, maxLen_le h.dok.nt, maxLen_le h.dok.name⟩
theorem sets15_any (self n : Int) (a : Option Addr) (l : List Act15) (c : Nat) (x : Act15) (w : World) (hs : (Lit.int .u8 self).wf = true) (hn0 : (Lit.int .i64 n).wf = true) (hr : Row w a (cellsL act15C l)) (hn : a = none → c = 0) (hl : l.length ≤ maxLen) (ok : ∀ x ∈ l, Act15In w x) (okx : Act15In w x) :
    Calls Tryz.prog SetsF15 #[.int .u8 self, .int .i64 n, .slice a l.length c, .agg (act15C x).toArray] w fun e w' => e = .returned (.bool true) ∧ Below w.heap.size w w' :=
  (sets15_law (fun _ _ => oldC w) (wfu8 hs) (cap := c) (x := x) (fun _ _ => rd_old hr) (maxLen_le hl) (fun y hy => lens_of (ok y hy))
    (fun hg y hy => act15Rd_of (ok y hy) (by have := ((greatB15_no hg).2 y hy).1; omega) (by have := ((greatB15_no hg).2 y hy).2; omega)) okx.k okx.ov (fun _ _ => (0, undef)) [] w (Mem.old w)).mono fun e w' ⟨x, h, hm⟩ => ⟨h, (show Mem (oldC w :: []) w' from hm).below 0 rfl⟩
end Go.Proofs.YtlekbdpdlalhbaaGreat
end
section
namespace Go.Proofs.YtlekbdpdlalhbaaGreat.bookSetsF
open Go
set_option maxRecDepth 100000
theorem closed : joinedFacts Tryz.pinned.checked.prog 4 Tryz.f4 Rows.bookSetsSpec Rows.bookSetsRow = true := by kernel_rfl
theorem inst : Tryz.f4.isInstance Tryz.pinned.checked.prog Rows.bookSetsRow.origin Rows.bookSetsRow.targs := of_decide_eq_true (by kernel_rfl)
theorem wrap : Tryz.f4.isWrapper Tryz.pinned.checked.prog Rows.bookSetsRow.wrapper Rows.bookSetsRow.mainSum := by
  unfold Func.isWrapper
  first | (rw [if_pos (by decide +kernel)]; kernel_rfl) | (rw [if_neg (by decide +kernel)]; exact ⟨rfl, rfl⟩)
end Go.Proofs.YtlekbdpdlalhbaaGreat.bookSetsF
end
