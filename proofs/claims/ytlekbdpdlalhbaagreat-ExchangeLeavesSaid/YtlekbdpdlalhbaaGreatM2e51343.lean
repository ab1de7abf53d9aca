/- BkC1, BkC2, BkC3, BkC4, Sm0, Sm1, Sm2, Sm3, Sm4, EaW5. -/
import Derived.Test.YtlekbdpdlalhbaaGreatM9546967
import Derived.Shelf.SlMaps.Clone
import Derived.Test.YtlekbdpdlalhbaaGreatM967e4a0
import Derived.Test.YtlekbdpdlalhbaaGreatHo4
import Derived.Test.YtlekbdpdlalhbaaGreatMf8d58ad
import Derived.ChangeKeysEq
import Derived.Test.YtlekbdpdlalhbaaGreatMbfb25a9
section
namespace Go.Proofs.YtlekbdpdlalhbaaGreat
set_option maxRecDepth 100000
open Go.RowKit Go.Lib Go.Tk Go.Shelf Go.Vc Go.Sx Go.Maps
set_option linter.unusedVariables false
set_option linter.unusedSimpArgs false
def CloneOF : Nat := 64
def CloneHF : Nat := 65
set_option maxHeartbeats 2000000 in
theorem cloneO_any (b : Nat) (es : Array MapEntry) (clock : Nat) (w : World) (hb : w.heap[b]? = some (.map es clock)) :
    Calls Tryz.prog CloneOF #[.map (some b)] w fun e w' => e = .returned (.map (some w.heap.size)) ∧ w' = w.alloc (.map es clock) := by
  unfold CloneOF
  have hq := fun w => run_eql_map_nil_sl (P := Tryz.prog) w 134 _ _ (some b) Tryz.underlying134
  go_enter Tryz.func64, Tryz.ntmps64
  go_wp2
  rw [run_callFunc_extern Tryz.func134 (by kernel_rfl) (by kernel_rfl) (by kernel_rfl) (e := Extern.MapsClone.clone) (by kernel_rfl), run_maps_clone_sl w 134 hb]
  simp only [Result.andThen]
  rw [Oper.upon_value]
  go_wp2
  rw [run_typeAssert_map_sl _ 134 _ _ _ _ Tryz.underlying134]
  simp only [Result.andThen]
  rw [Oper.upon_value]
  go_wp2
  go_ret
  exact ⟨rfl, rfl⟩
set_option maxHeartbeats 2000000 in
theorem cloneH_any (b : Nat) (es : Array MapEntry) (clock : Nat) (w : World) (hb : w.heap[b]? = some (.map es clock)) :
    Calls Tryz.prog CloneHF #[.map (some b)] w fun e w' => e = .returned (.map (some w.heap.size)) ∧ w' = w.alloc (.map es clock) := by
  unfold CloneHF
  have hq := fun w => run_eql_map_nil_sl (P := Tryz.prog) w 135 _ _ (some b) Tryz.underlying135
  go_enter Tryz.func65, Tryz.ntmps65
  go_wp2
  rw [run_callFunc_extern Tryz.func134 (by kernel_rfl) (by kernel_rfl) (by kernel_rfl) (e := Extern.MapsClone.clone) (by kernel_rfl), run_maps_clone_sl w 135 hb]
  simp only [Result.andThen]
  rw [Oper.upon_value]
  go_wp2
  rw [run_typeAssert_map_sl _ 135 _ _ _ _ Tryz.underlying135]
  simp only [Result.andThen]
  rw [Oper.upon_value]
  go_wp2
  go_ret
  exact ⟨rfl, rfl⟩
end Go.Proofs.YtlekbdpdlalhbaaGreat
end
section
namespace Go.Proofs.YtlekbdpdlalhbaaGreat
set_option maxRecDepth 100000
open Go.RowKit Go.Lib Go.Tk Go.Shelf Go.Vc Go.Sx Go.Maps
set_option linter.unusedVariables false
set_option linter.unusedSimpArgs false
/-- the rows of documents -/
def rowsC (L : List (DocV × DocA)) : Chunk where
  at_ S w := ∀ p ∈ L, DocIn S w p
  stable hk hi h := fun p hp => (h p hp).stays hk hi
theorem docs_split {L : List (DocV × DocA)} {b : Nat} {v : Value} {R : List Chunk} {w : World} (h : Mem (docsF L b v :: R) w) : Mem (mapC tidK b (ents docW (docKV L)) :: rowsC L :: R) w := by
  have h1 : Mem (allC [mapC tidK b (ents docW (docKV L)), rowsC L] :: R) w := h.weaken fun S hS => by
    obtain ⟨⟨hb, hm⟩, Sd, g1, g2, -⟩ := hS
    refine ⟨fun i k => match i with | 0 => k = b | _ => Sd k, fun i k hi hk => ?_, fun i c hc => ?_, fun i j k hi hj hij hki hkj => ?_⟩
    · match i, hk with
      | 0, hk => exact hk ▸ hb
      | i + 1, hk => exact (g1 k hk).1
    · match i, hc with
      | 0, hc => cases hc; exact ⟨rfl, hm⟩
      | 1, hc => cases hc; exact g2
      | i + 2, hc => cases hc
    · match i, j, hij, hki, hkj with
      | 0, 0, hij, _, _ => exact hij rfl
      | 0, j + 1, _, hki, hkj => exact (g1 k hkj).2 hki
      | i + 1, 0, _, hki, hkj => exact (g1 k hki).2 hkj
      | i + 1, j + 1, hij, _, _ => simp at hi hj; exact hij (by omega)
  exact h1.all
theorem docs_shut {L : List (DocV × DocA)} {b : Nat} {v : Value} {R : List Chunk} {w : World} (h : Mem (mapC tidK b (ents docW (docKV L)) :: rowsC L :: R) w) : Mem (docsF L b v :: R) w := by
  refine mem_join (l := [mapC tidK b (ents docW (docKV L)), rowsC L]) h fun S hS => ?_
  obtain ⟨F, g1, g2, g3⟩ := hS
  have m0 := g2 0 _ rfl
  have m1 := g2 1 _ rfl
  refine ⟨⟨g1 0 b (by simp) m0.1, m0.2⟩, F 1, fun k hk => ⟨g1 1 k (by simp) hk, fun e => ?_⟩, m1, fun p hp => by cases hp⟩
  subst e
  exact g3 1 0 k (by simp) (by simp) (by decide) hk m0.1
end Go.Proofs.YtlekbdpdlalhbaaGreat
end
section
namespace Go.Proofs.YtlekbdpdlalhbaaGreat
set_option maxRecDepth 100000
open Go.RowKit Go.Lib Go.Tk Go.Shelf Go.Vc Go.Sx Go.Maps
set_option linter.unusedVariables false
set_option linter.unusedSimpArgs false
theorem copied_rows (L : List (DocV × DocA)) (p : DocV × DocA) (hp : p ∈ L) (sm : DocSmall p.1) : CallOK Tryz.prog CopiedF [.agg (docSA p.1 p.2)] [((0, 5), .fam fun _ _ => rowsC L)] [] (.agg (docS p.1 (.raw 1 0) (.raw 1 1) (.raw 1 2))) (docR p.1) := by
  refine CallOK.mv 5 ?_ rfl rfl rfl
  intro ε R w hM
  have hM' : Mem (rowsC L :: R) w := hM
  have ok : SlOk p.2.la p.1.s.legs.length p.2.lc ∧ SlOk p.2.ta p.1.s.taxes.length p.2.tc ∧ SlOk p.2.va p.1.vals.length p.2.vc := hM'.of 0 rfl fun S hS => ⟨(hS p hp).okl, (hS p hp).okt, (hS p hp).okv⟩
  exact copied_w (fun _ _ => rowsC L) (fun b v S w h => (h p hp).legs) (fun b v S w h => (h p hp).taxes) (fun b v S w h => (h p hp).vals) ok.1 ok.2.1 ok.2.2 sm ε R w hM
theorem putt_new {κ α : Type} [DecidableEq κ] : ∀ (l : List (κ × α)) (k : κ) (a : α), (∀ p ∈ l, p.1 ≠ k) → putt l k a = l ++ [(k, a)]
  | [], _, _, _ => rfl
  | p :: l, k, a, h => by
    show (if _ then _ else _) = _
    rw [if_neg (h p List.mem_cons_self), putt_new l k a fun q hq => h q (List.mem_cons_of_mem _ hq)]
    rfl
/-- a new document whose lists lie in rows of one's own is set -/
theorem upd_docsN (ds : List DocV) (d : DocV) (ht : TidOk d.t) (hn : ∀ x ∈ ds, x.t ≠ d.t) :
    OpG Tryz.prog (isUp DT) upXYZ [.map 0 0, .agg (tidS d.t), .agg (docS d (.raw 0 1) (.raw 0 2) (.raw 0 3))] [] [((0, 0), .fam (docsX ds)), ((0, 1), legR d.s.legs.length d.s.legs), ((0, 2), taxR d.s.taxes.length d.s.taxes), ((0, 3), i64R d.vals.length d.vals)] (.val undef) [((0, 0), .fam (docsX (ds ++ [d])))] := by
  intro o ho
  refine ⟨(upd_docs [] [(d, docA0)] (d, docA0) ht (List.Perm.refl _) o ho).1, fun ε ρ R w hx hM => ?_⟩
  have hM : Mem (docsX ds (ε 0 0).1 (ε 0 0).2 :: rowC 31 3 (asSl (ε 0 1).2) d.s.legs.length (cellsL encLeg d.s.legs) :: rowC 214 2 (asSl (ε 0 2).2) d.s.taxes.length (cellsL encTax d.s.taxes) :: rowC 2 1 (asSl (ε 0 3).2) d.vals.length (d.vals.map (.int .i64)) :: R) w := hM
  obtain ⟨la, lc, hvl, okl⟩ := row_sl (hM.owns 1 rfl)
  obtain ⟨ta, tc, hvt, okt⟩ := row_sl (hM.owns 2 rfl)
  obtain ⟨va, vc, hvv, okv⟩ := row_sl (hM.owns 3 rfl)
  rw [hvl, hvt, hvv] at hM
  obtain ⟨⟨L, hL⟩, hM⟩ := Mem.ex hM
  have hM2 := docs_join (p := (d, ⟨la, lc, ta, tc, va, vc⟩)) rfl rfl rfl hM
  have hp : (putt (docKV L) d.t (d, (⟨la, lc, ta, tc, va, vc⟩ : DocA))).Perm (docKV (L ++ [(d, ⟨la, lc, ta, tc, va, vc⟩)])) := by
    rw [putt_new _ _ _ fun q hq => by
      obtain ⟨y, hy, rfl⟩ := List.mem_map.1 hq
      exact hn y.1 (by rw [← hL]; exact List.mem_map_of_mem hy)]
    unfold docKV
    rw [List.map_append]
    exact List.Perm.refl _
  have hA : SV.dens ε [.map 0 0, .agg (tidS d.t), .agg (docS d (.raw 0 1) (.raw 0 2) (.raw 0 3))] = SV.dens ε [.map 0 0, .agg (tidS d.t), .agg (docSA d ⟨la, lc, ta, tc, va, vc⟩)] := by
    simp only [SV.dens, SV.den, docS, docSA, hvl, hvt, hvv]
  rw [hA] at hx
  have := (upd_docs L (L ++ [(d, ⟨la, lc, ta, tc, va, vc⟩)]) (d, ⟨la, lc, ta, tc, va, vc⟩) ht hp o ho).2 ε ρ R w hx hM2
  exact res_mono (fun u w' ⟨x, h1, h2⟩ => ⟨x, h1, by
    have h2 : Mem (docsF (L ++ [(d, ⟨la, lc, ta, tc, va, vc⟩)]) (eset ε 1 x 0 0).1 (eset ε 1 x 0 0).2 :: R) w' := h2
    have h3 : Mem (docsX (ds ++ [d]) (eset ε 1 x 0 0).1 (eset ε 1 x 0 0).2 :: R) w' := Mem.in_ex ⟨L ++ [(d, ⟨la, lc, ta, tc, va, vc⟩)], by rw [List.map_append, hL]; rfl⟩ h2
    exact h3⟩) this
end Go.Proofs.YtlekbdpdlalhbaaGreat
end
section
namespace Go.Proofs.YtlekbdpdlalhbaaGreat
set_option maxRecDepth 100000
open Go.RowKit Go.Lib Go.Tk Go.Shelf Go.Vc Go.Sx Go.Maps
set_option linter.unusedVariables false
set_option linter.unusedSimpArgs false
theorem clone_v {f : Nat} {kt : TypeId} {κ α : Type} {K : KeyKind Tryz.prog kt κ} {enc : α → Value} {L : List (κ × α)} (k m : Nat)
    (hf : ∀ (b : Nat) (es : Array MapEntry) (clock : Nat) (w : World), w.heap[b]? = some (.map es clock) → Calls Tryz.prog f #[.map (some b)] w fun e w' => e = .returned (.map (some w.heap.size)) ∧ w' = w.alloc (.map es clock)) :
    CallOK Tryz.prog f [.val (.map (some m))] [((0, k), .fam fun _ _ => mapC K m (ents enc L))] [] (.map 1 0) [((1, 0), .fam (mapT K enc L))] := by
  intro ε R w hM
  have hM : Mem (mapC K m (ents enc L) :: R) w := hM
  obtain ⟨es, clock, hb, h2⟩ := hM.map 0 rfl
  refine (hf m es clock w hb).mono ?_
  rintro e w' ⟨rfl, rfl⟩
  have h1 : Mem (mapC K w.heap.size (ents enc L) :: mapC K m (ents enc L) :: R) (w.alloc (.map es clock)) := hM.fresh (below_alloc _ _) (fun k => k = w.heap.size) ⟨rfl, es, clock, show (w.heap.push _)[w.heap.size]? = _ from Array.getElem?_push_size, h2⟩ (fun k hk => by subst hk; exact ⟨Nat.le_refl _, by simp⟩)
  have h1 := h1.front 1 rfl
  have e1 : ∀ x : Nat → Nat × Value, eset ε 1 x 1 = x := fun x => by simp [eset]
  refine ⟨fun _ => (w.heap.size, undef), by simp only [SV.den]; rw [e1], ?_⟩
  show Mem (mapC K m (ents enc L) :: mapC K (eset ε 1 _ 1 0).1 (ents enc L) :: R) _
  rw [e1]
  exact h1
theorem perm_lift {α β : Type} {f : α → β} : ∀ (r : List β) (l : List α), r.Perm (l.map f) → ∃ l', l'.map f = r ∧ l.Perm l'
  | [], l, h => by
    have : l = [] := List.map_eq_nil_iff.1 (List.nil_perm.1 h)
    subst this
    exact ⟨[], rfl, List.Perm.refl _⟩
  | x :: r, l, h => by
    obtain ⟨p, l', hp, hl, hr⟩ := perm_head' h
    obtain ⟨l2, h2, h3⟩ := perm_lift r l' hr
    exact ⟨p :: l2, by rw [List.map_cons, hp, h2], hl.trans (h3.cons p)⟩
theorem docsX_perm {ds ds' : List DocV} (hp : ds'.Perm ds) {b : Nat} {v : Value} {S : Nat → Prop} {w : World} (h : (docsX ds b v).at_ S w) : (docsX ds' b v).at_ S w := by
  obtain ⟨⟨L, hL⟩, h⟩ := h
  obtain ⟨L', h1, h2⟩ := perm_lift ds' L (by rw [hL]; exact hp)
  refine ⟨⟨L', h1⟩, ⟨h.1.1, h.1.2.perm ?_⟩, ?_⟩
  · unfold ents docKV
    exact (h2.map _).map _
  · obtain ⟨Sd, g1, g2, -⟩ := h.2
    exact ⟨Sd, g1, fun p hp => g2 p (h2.mem_iff.2 hp), fun p hp => by cases hp⟩
def CloneBF : Nat := 17
abbrev DocL (B : BookV) := { L : List (DocV × DocA) // L.map (·.1) = B.docs }
def oldB (B : BookV) (a : BkA) : SC := .box none [.val (.int .u8 B.self), .val (.int .i64 B.n), .val (.map (some a.d)), .val (.map (some a.o)), .val (.map (some a.h))]
def oldH (B : BookV) (a : BkA) : Heap := [((0, 0), oldB B a), ((0, 2), .fam fun _ _ => mapC kidK a.o (ents ownW B.owns)), ((0, 3), .fam fun _ _ => mapC kidK a.h (ents heldW B.helds))]
def newB (B : BookV) : Heap := [((1, 0), .box none [.val (.int .u8 B.self), .val (.int .i64 B.n), .map 1 1, .map 1 2, .map 1 3]), ((1, 2), ownsF B.owns), ((1, 3), heldsF B.helds)]
theorem clone_b (B : BookV) (hk : ∀ d ∈ B.docs, TidOk d.t ∧ DocSmall d) (hn : (B.docs.map (·.t)).Nodup) : CallOK Tryz.prog CloneBF [.ptr 0 0 0] [] (bkC B) (.ptr 1 0 0) (bkC B ++ [((1, 0), .fam (bookF B))]) := by
  refine callOK_intro (by kernel_rfl) fun eb R => ?_
  refine go_open (X := BkA × DocL B) (fun x => oldH B x.1 ++ [((0, 1), .fam fun _ _ => mapC tidK x.1.d (ents docW (docKV x.2.1))), ((0, 5), .fam fun _ _ => rowsC x.2.1)])
    (fun ε w hM => by
      obtain ⟨a, h⟩ := Mem.ex hM
      have h2 := h.all.front 1 rfl
      obtain ⟨L, h3⟩ := Mem.ex h2
      have h4 := docs_split h3
      exact ⟨(a, L), ((h4.front 4 rfl).front 4 rfl).front 4 rfl⟩) (fun x => by kernel_rfl) fun x => ?_
  obtain ⟨a, L, hL⟩ := x
  have c1 := clone_v (K := kidK) (enc := ownW) (L := B.owns) 2 a.o cloneO_any
  have c2 := clone_v (K := kidK) (enc := heldW) (L := B.helds) 3 a.h cloneH_any
  refine leaf_cut (rgK Tryz.prog CloneBF 4 []) [(0, .ptr 0 0 0), (3, .ptr 1 0 0)] (oldH B a ++ [((0, 1), .fam fun _ _ => mapC tidK a.d (ents docW (docKV L))), ((0, 5), .fam fun _ _ => rowsC L)] ++ newB B ++ [((1, 1), .obj [] 0)]) calNone false 400 [hC 3 13 c1, hC 3 18 c2, .stop 4] calNone_ok (by kernel_rfl) ?_
  refine go_open (X := Unit) (fun _ => [((1, 1), .fam (docsX []))] ++ (oldH B a ++ [((0, 1), .fam fun _ _ => mapC tidK a.d (ents docW (docKV L))), ((0, 5), .fam fun _ _ => rowsC L)] ++ newB B)) (fun ε w hM => by
      have h1 : Mem (docsX [] (ε 1 1).1 (ε 1 1).2 :: (hden ε (oldH B a ++ [((0, 1), .fam fun _ _ => mapC tidK a.d (ents docW (docKV L))), ((0, 5), .fam fun _ _ => rowsC L)] ++ newB B) ++ R)) w := (hM.front 8 rfl).weaken (c' := docsX [] (ε 1 1).1 (ε 1 1).2) (fun S hS => obj_docs hS)
      exact ⟨(), h1⟩) (fun x => by kernel_rfl) fun _ => ?_
  have r1 := rangeG (P := Tryz.prog) (K := tidK) (t := DT) (m := a.d) (j := 1) (L := ents docW (docKV L)) Tryz.underlying133
  have d1 := next_doneG (P := Tryz.prog) (K := tidK) (m := a.d) (L := ents docW (docKV L))
  refine go_loop (X := { x : List (Tid × (DocV × DocA)) × List (Tid × (DocV × DocA)) // (docKV L).Perm (x.1 ++ x.2) }) 0 [] (fun x => ([(0, .ptr 0 0 0), (3, .ptr 1 0 0), (33, .ptr 1 9 0)],
      oldH B a ++ [((0, 5), .fam fun _ _ => rowsC L), ((1, 9), .fam fun r _ => rngC tidK r a.d (ents docW (docKV L)) (ents docW x.1.2))] ++ newB B ++ [((1, 1), .fam (docsX (x.1.1.map (·.2.1))))]))
    (fun x => x.1.2.length) ⟨([], docKV L), List.Perm.refl _⟩ calNone false 400 [hG 4 4 r1] calNone_ok (by kernel_rfl) ?_
  rintro ⟨⟨done, left⟩, hd⟩ J hJ
  cases left with
  | cons x l =>
    have m1 := next_moreG (P := Tryz.prog) (K := tidK) (m := a.d) (L := ents docW (docKV L)) (left := ents docW (x :: l)) (by simp [ents])
    refine leaf_cut (rgK Tryz.prog CloneBF 6 [J]) [(0, .ptr 0 0 0), (3, .ptr 1 0 0), (33, .ptr 1 9 0)]
      ([((1, 9), .fam fun r _ => exC fun (y : (Tid × Value) × List (Tid × Value)) => curC tidK r a.d (ents docW (docKV L)) (ents docW (x :: l)) y.1 y.2)] ++ (oldH B a ++ [((0, 5), .fam fun _ _ => rowsC L)] ++ newB B ++ [((1, 1), .fam (docsX (done.map (·.2.1))))]))
      calNone false 400 [hG 5 0 m1, .stop 6] calNone_ok (by kernel_rfl) ?_
    refine go_open (X := { y : (Tid × (DocV × DocA)) × List (Tid × (DocV × DocA)) // (x :: l).Perm (y.1 :: y.2) }) (fun y => [((1, 9), .fam fun r _ => curC tidK r a.d (ents docW (docKV L)) (ents docW (x :: l)) (y.1.1.1, docW y.1.1.2) (ents docW y.1.2))] ++ (oldH B a ++ [((0, 5), .fam fun _ _ => rowsC L)] ++ newB B ++ [((1, 1), .fam (docsX (done.map (·.2.1))))]))
      (fun ε w hM => by obtain ⟨y, h⟩ := cur_typed hM; exact ⟨y, h⟩) (fun y => by kernel_rfl) ?_
    rintro ⟨⟨⟨k, p⟩, l'⟩, hp⟩
    have hd' : (docKV L).Perm ((done ++ [(k, p)]) ++ l') := by
      rw [List.append_assoc]
      exact hd.trans (List.Perm.append_left done hp)
    have hlt : l'.length < (x :: l).length := by have := hp.length_eq; simp only [List.length_cons] at this ⊢; omega
    have hmem : (k, p) ∈ docKV L := hd'.mem_iff.2 (by simp)
    obtain ⟨q, hq, hqe⟩ := List.mem_map.1 hmem
    injection hqe with e1 e2
    subst e2
    subst e1
    have hb : q.1 ∈ B.docs := by rw [← hL]; exact List.mem_map_of_mem hq
    have g1 := entryG (P := Tryz.prog) (K := tidK) (m := a.d) (L := ents docW (docKV L)) (left := ents docW (x :: l)) (left' := ents docW l') (p := (q.1.t, docW q)) (ks := .agg (tidS q.1.t)) (vs := .agg (docSA q.1 q.2)) (fun _ => rfl) (fun _ => rfl)
    have c3 := copied_rows L q hq (hk q.1 hb).2
    have hfresh : ∀ z ∈ done.map (·.2.1), z.t ≠ q.1.t := by
      have hnk : ((docKV L).map (·.1)).Nodup := by rw [docKV_map, hL]; exact hn
      have h5 := (hd'.map (·.1)).nodup_iff.1 hnk
      rw [List.map_append, List.map_append] at h5
      intro z hz
      obtain ⟨y, hy, rfl⟩ := List.mem_map.1 hz
      have hy2 : y ∈ docKV L := hd'.mem_iff.2 (List.mem_append_left _ (List.mem_append_left _ hy))
      obtain ⟨y', -, hye⟩ := List.mem_map.1 hy2
      intro e
      refine (List.nodup_append.1 (List.nodup_append.1 h5).1).2.2 y.1 (List.mem_map_of_mem hy) q.1.t (by simp) ?_
      rw [← hye] at e ⊢
      exact e
    have g2 := upd_docsN (done.map (·.2.1)) q.1 (hk q.1 hb).1 hfresh
    have ee : (done ++ [(q.1.t, q)]).map (·.2.1) = done.map (·.2.1) ++ [q.1] := by rw [List.map_append]; rfl
    rw [← ee] at g2
    exact leaf_round (lpK Tryz.prog CloneBF 0 []) false 400 [hG 6 0 g1, hC 7 6 c3, hG 7 7 g2] (hJ ⟨(done ++ [(q.1.t, q)], l'), hd'⟩ hlt) (by kernel_rfl)
  | nil =>
    rw [List.append_nil] at hd
    have hds : B.docs.Perm (done.map (·.2.1)) := by
      have := hd.map (·.2.1)
      unfold docKV at this
      rw [List.map_map] at this
      rw [← hL]
      exact this
    refine leaf_cut (rgK Tryz.prog CloneBF 8 []) [(3, .ptr 1 0 0)]
      (oldH B a ++ [((0, 5), .fam fun _ _ => rowsC L), ((1, 9), .fam fun r _ => rngC tidK r a.d (ents docW (docKV L)) [])] ++ newB B ++ [((1, 1), .fam (docsX (done.map (·.2.1))))])
      calNone false 400 [hG 5 0 d1, .stop 8] calNone_ok (by kernel_rfl) ?_
    refine go_open (X := Unit) (fun _ => [((0, 0), .fam (bookF B)), ((1, 0), .fam (bookF B))]) (fun ε w hM => ⟨(), by
      have hM : Mem (boxE none (ε 0 0).1 #[.int .u8 B.self, .int .i64 B.n, .map (some a.d), .map (some a.o), .map (some a.h)] :: mapC kidK a.o (ents ownW B.owns) :: mapC kidK a.h (ents heldW B.helds) :: rowsC L :: rngC tidK (ε 1 9).1 a.d (ents docW (docKV L)) [] :: boxE none (ε 1 0).1 #[.int .u8 B.self, .int .i64 B.n, .map (some (ε 1 1).1), .map (some (ε 1 2).1), .map (some (ε 1 3).1)] :: mapT kidK ownW B.owns (ε 1 2).1 (ε 1 2).2 :: mapT kidK heldW B.helds (ε 1 3).1 (ε 1 3).2 :: docsX (done.map (·.2.1)) (ε 1 1).1 (ε 1 1).2 :: R) w := hM
      have h1 := (hM.front 8 rfl).weaken (c' := docsX B.docs (ε 1 1).1 undef) fun S hS => docsX_perm hds hS
      have h2 := (h1.front 5 rfl).weaken (c' := mapC tidK a.d (ents docW (docKV L))) fun S hS => ⟨hS.2.1, hS.2.2.map⟩
      have h3 := docs_shut (v := undef) ((h2.front 5 rfl).front 1 rfl)
      have h4 : Mem (docsX B.docs a.d undef :: _) w := Mem.in_ex ⟨L, hL⟩ h3
      have h5 := (((h4.front 7 rfl).front 7 rfl).front 3 rfl).front 7 rfl
      have h6 := Mem.in_ex (f := fun y : BkA => allC [boxE none (ε 1 0).1 #[.int .u8 B.self, .int .i64 B.n, .map (some y.d), .map (some y.o), .map (some y.h)], docsX B.docs y.d undef, mapT kidK ownW B.owns y.o undef, mapT kidK heldW B.helds y.h undef]) ⟨(ε 1 1).1, (ε 1 2).1, (ε 1 3).1⟩ (Mem.in_all (l := [_, _, _, _]) h5)
      have h7 := (((h6.front 4 rfl).front 4 rfl).front 3 rfl).front 4 rfl
      exact Mem.in_ex (f := fun y : BkA => allC [boxE none (ε 0 0).1 #[.int .u8 B.self, .int .i64 B.n, .map (some y.d), .map (some y.o), .map (some y.h)], docsX B.docs y.d undef, mapT kidK ownW B.owns y.o undef, mapT kidK heldW B.helds y.h undef]) a (Mem.in_all (l := [_, _, _, _]) h7)⟩) (fun _ => by kernel_rfl) fun _ => ?_
    exact leaf_end calNone false 400 [] calNone_ok (by kernel_rfl)
end Go.Proofs.YtlekbdpdlalhbaaGreat
end
section
namespace Go.Proofs.YtlekbdpdlalhbaaGreat
set_option maxRecDepth 100000
open Go.RowKit Go.Lib Go.Tk Go.Shelf Go.Vc Go.Sx Go.Maps
set_option linter.unusedVariables false
set_option linter.unusedSimpArgs false

theorem len_val {kt : TypeId} {κ : Type} {K : KeyKind Tryz.prog kt κ} {m j n : Nat} {L : List (κ × Value)} (hn : L.length = n) :
    OpG Tryz.prog (isLenM Tryz.prog) lenX [.val (.map (some m))] [((0, j), .fam fun _ _ => mapC K m L)] [] (.val (.int .i64 (n : Int))) [] := by
  intro o ho
  unfold isLenM at ho
  split at ho <;> try (cases ho; done)
  rename_i c hop
  split at ho <;> try (cases ho; done)
  rename_i hc
  split at ho <;> try (cases ho; done)
  rename_i x t' ha ht
  split at ho <;> try (cases ho; done)
  rename_i k' e' hT
  have hx' : lenX o = [x] := by unfold lenX; rw [hop]; exact ha
  rw [hx']
  refine ⟨fun q hq => by rw [hop]; simp [Op.operands, Call.operands, hc]; have := arr_one ha; rw [this]; simpa using hq, fun ε ρ R w hx hM => ?_⟩
  simp only [List.map_cons, List.map_nil, SV.dens, SV.den, List.cons.injEq, and_true] at hx
  have hM : Mem (mapC K m L :: R) w := hM
  obtain ⟨es, clock, hb, hp, -⟩ := hM.of 0 rfl (φ := MapAt K w m L) (fun S hS => hS.2)
  have hlen : es.size = n := by have := hp.length_eq; simp at this; omega
  have := x_lenM (P := Tryz.prog) (ρ := ρ) (o := o) (w := w) hop hc (arr_one ha) ht hx hT hb
  rw [hlen] at this
  exact res_ok this ⟨fun _ => (0, undef), by simp only [SV.den], hM⟩
/-- do two maps have the same? -/
def sameM {κ α : Type} [DecidableEq κ] [DecidableEq α] (L M : List (κ × α)) : Bool := decide (L.length = M.length) && L.all fun p => decide (lkt M p.1 = some p.2)
theorem sameM_self {κ α : Type} [DecidableEq κ] [DecidableEq α] {L : List (κ × α)} (h : (L.map (·.1)).Nodup) : sameM L L = true := by
  unfold sameM
  rw [decide_eq_true rfl, Bool.true_and, List.all_eq_true]
  exact fun p hp => decide_eq_true (lkt_of h hp)
theorem sameM_len {κ α : Type} [DecidableEq κ] [DecidableEq α] {L M : List (κ × α)} (h : L.length ≠ M.length) : sameM L M = false := by
  unfold sameM; rw [decide_eq_false h]; rfl
theorem sameM_bad {κ α : Type} [DecidableEq κ] [DecidableEq α] {L M : List (κ × α)} {p : κ × α} (hp : p ∈ L) (h : lkt M p.1 ≠ some p.2) : sameM L M = false := by
  unfold sameM
  rw [Bool.and_eq_false_iff]
  refine .inr ?_
  rw [Bool.eq_false_iff]
  intro e
  exact h (of_decide_eq_true (List.all_eq_true.1 e p hp))
theorem sameM_mk {κ α : Type} [DecidableEq κ] [DecidableEq α] {L M : List (κ × α)} (hl : L.length = M.length) (h : ∀ p ∈ L, lkt M p.1 = some p.2) : sameM L M = true := by
  unfold sameM
  rw [decide_eq_true hl, Bool.true_and, List.all_eq_true]
  exact fun p hp => decide_eq_true (h p hp)
/-- two coupons compared, cell by cell -/
def legEq (a b : Leg) : Bool := decide (a.c = b.c) && (decide (a.f = b.f) && (decide (a.x = b.x) && true))
def cpnEq (a b : Cpn) : Bool := legEq a.l b.l && (decide (a.v = b.v) && (decide (a.s = b.s) && (decide (a.n = b.n) && true)))
def ownEq (a b : OwnV) : Bool := cpnEq a.k b.k && ((a.away == b.away) && (decide (a.dst = b.dst) && ((a.paid == b.paid) && ((a.asked == b.asked) && true))))
def heldEq (a b : HeldV) : Bool := cpnEq a.k b.k && ((a.here == b.here) && ((a.paid == b.paid) && ((a.wanted == b.wanted) && ((a.billed == b.billed) && true))))
theorem cpnEq_iff (a b : Cpn) : cpnEq a b = true ↔ a = b := by
  obtain ⟨⟨a1, a2, a3⟩, a4, a5, a6⟩ := a
  obtain ⟨⟨b1, b2, b3⟩, b4, b5, b6⟩ := b
  simp [cpnEq, legEq, and_assoc]
theorem ownEq_iff (a b : OwnV) : ownEq a b = true ↔ a = b := by
  obtain ⟨a1, a2, a3, a4, a5⟩ := a
  obtain ⟨b1, b2, b3, b4, b5⟩ := b
  unfold ownEq
  rw [Bool.and_eq_true, cpnEq_iff]
  simp
theorem heldEq_iff (a b : HeldV) : heldEq a b = true ↔ a = b := by
  obtain ⟨a1, a2, a3, a4, a5⟩ := a
  obtain ⟨b1, b2, b3, b4, b5⟩ := b
  unfold heldEq
  rw [Bool.and_eq_true, cpnEq_iff]
  simp
theorem ownEq_no {a b : OwnV} (h : a ≠ b) : ownEq a b = false := by
  cases e : ownEq a b with
  | false => rfl
  | true => exact absurd ((ownEq_iff a b).1 e) h
theorem heldEq_no {a b : HeldV} (h : a ≠ b) : heldEq a b = false := by
  cases e : heldEq a b with
  | false => rfl
  | true => exact absurd ((heldEq_iff a b).1 e) h
/-- what a map says that lies there -/
theorem map_facts {kt : TypeId} {κ α : Type} {K : KeyKind Tryz.prog kt κ} {enc : α → Value} {L : List (κ × α)} {m : Nat} {R : List Chunk} {w : World} (h : Mem (mapC K m (ents enc L) :: R) w) : (L.map (·.1)).Nodup ∧ ∀ p ∈ L, K.ok p.1 := by
  obtain ⟨es, clock, hb, hp, hn, hk, -⟩ := h.of 0 rfl (φ := MapAt K w m (ents enc L)) (fun S hS => hS.2)
  refine ⟨by unfold ents at hn; rwa [List.map_map] at hn, fun p hp' => ?_⟩
  exact hk (p.1, enc p.2) (List.mem_map_of_mem (f := fun p : κ × α => (p.1, enc p.2)) hp')
end Go.Proofs.YtlekbdpdlalhbaaGreat
end
section
namespace Go.Proofs.YtlekbdpdlalhbaaGreat
set_option maxRecDepth 100000
open Go.RowKit Go.Lib Go.Tk Go.Shelf Go.Vc Go.Sx Go.Maps
set_option linter.unusedVariables false
set_option linter.unusedSimpArgs false

def EqO : Nat := 83
theorem eqO_w (m : Nat) (L M : OwnsV) : CallOK Tryz.prog EqO [.val (.map (some m)), .map 0 7] [((0, 7), ownsF M)] [((0, 5), .fam fun _ _ => mapC kidK m (ents ownW L))] (.val (.bool (sameM L M))) [((0, 5), .fam fun _ _ => mapC kidK m (ents ownW L))] := by
  have l1 := len_val (K := kidK) (m := m) (j := 5) (n := L.length) (L := ents ownW L) (by simp [ents])
  have l2 := len_map (P := Tryz.prog) (K := kidK) (enc := ownW) M
  by_cases hl : L.length = M.length
  case neg =>
    rw [sameM_len hl]
    have q0 : (!decide ((L.length : Int) = (M.length : Int))) = true := by simp; omega
    exact callOK_run 400 [hG 1 1 l1, hG 1 3 l2, hB 1 4 _ _ q0] (by kernel_rfl) (by kernel_rfl)
  have q0 : (!decide ((L.length : Int) = (M.length : Int))) = false := by simp; omega
  refine callOK_intro (by kernel_rfl) fun eb R => ?_
  refine go_open (X := { u : Unit // (L.map (·.1)).Nodup ∧ ∀ p ∈ L, KidOk p.1 }) (fun _ => [((0, 5), .fam fun _ _ => mapC kidK m (ents ownW L)), ((0, 7), ownsF M)])
    (fun ε w hM => by
      have hM : Mem (mapT kidK ownW M (ε 0 7).1 (ε 0 7).2 :: mapC kidK m (ents ownW L) :: R) w := hM
      have h1 := hM.front 1 rfl
      exact ⟨⟨(), map_facts h1⟩, h1⟩) (fun _ => by kernel_rfl) ?_
  rintro ⟨-, hn, hok⟩
  have r1 := rangeG (P := Tryz.prog) (K := kidK) (t := OT) (m := m) (j := 5) (L := ents ownW L) Tryz.underlying134
  have d1 := next_doneG (P := Tryz.prog) (K := kidK) (m := m) (L := ents ownW L)
  refine go_loop (X := { x : OwnsV × OwnsV // L.Perm (x.1 ++ x.2) ∧ ∀ p ∈ x.1, lkt M p.1 = some p.2 }) 0 [] (fun x => ([(1, .map 0 7), (15, .ptr 1 9 0)],
      [((0, 7), ownsF M), ((1, 9), .fam fun r _ => rngC kidK r m (ents ownW L) (ents ownW x.1.2))]))
    (fun x => x.1.2.length) ⟨([], L), List.Perm.refl _, fun p hp => by cases hp⟩ calNone false 400 [hG 1 1 l1, hG 1 3 l2, hB 1 4 _ _ q0, hG 3 1 r1] calNone_ok (by kernel_rfl) ?_
  rintro ⟨⟨done, left⟩, hd, hdone⟩ J hJ
  have back : ∀ {left : OwnsV} (b : Bool), Go Tryz.prog EqO (.val (.bool b)) ([((0, 7), ownsF M)] ++ [((0, 5), .fam fun _ _ => mapC kidK m (ents ownW L))]) eb R .nrm (rgK Tryz.prog EqO (bif b then 9 else 8) [J]) [] [((0, 7), ownsF M), ((1, 9), .fam fun r _ => rngC kidK r m (ents ownW L) (ents ownW left))] := fun {left} b => by
    refine go_open (X := Unit) (fun _ => [((0, 7), ownsF M), ((0, 5), .fam fun _ _ => mapC kidK m (ents ownW L))]) (fun ε w hM => ⟨(), by
      have hM : Mem (mapT kidK ownW M (ε 0 7).1 (ε 0 7).2 :: rngC kidK (ε 1 9).1 m (ents ownW L) (ents ownW left) :: R) w := hM
      exact ((hM.front 1 rfl).weaken (c' := mapC kidK m (ents ownW L)) fun S hS => ⟨hS.2.1, hS.2.2.map⟩).front 1 rfl⟩) (fun _ => by kernel_rfl) fun _ => ?_
    cases b
    · exact leaf_end calNone false 400 [] calNone_ok (by kernel_rfl)
    · exact leaf_end calNone false 400 [] calNone_ok (by kernel_rfl)
  cases left with
  | cons x l =>
    have m1 := next_moreG (P := Tryz.prog) (K := kidK) (m := m) (L := ents ownW L) (left := ents ownW (x :: l)) (by simp [ents])
    refine leaf_cut (rgK Tryz.prog EqO 5 [J]) [(1, .map 0 7), (15, .ptr 1 9 0)]
      [((1, 9), .fam fun r _ => exC fun (y : (Kid × Value) × List (Kid × Value)) => curC kidK r m (ents ownW L) (ents ownW (x :: l)) y.1 y.2), ((0, 7), ownsF M)]
      calNone false 400 [hG 4 0 m1, .stop 5] calNone_ok (by kernel_rfl) ?_
    refine go_open (X := { y : (Kid × OwnV) × OwnsV // (x :: l).Perm (y.1 :: y.2) }) (fun y => [((1, 9), .fam fun r _ => curC kidK r m (ents ownW L) (ents ownW (x :: l)) (y.1.1.1, ownW y.1.1.2) (ents ownW y.1.2)), ((0, 7), ownsF M)])
      (fun ε w hM => cur_typed hM) (fun y => by kernel_rfl) ?_
    rintro ⟨⟨⟨k, o⟩, l'⟩, hp⟩
    have g1 := entryG (P := Tryz.prog) (K := kidK) (m := m) (L := ents ownW L) (left := ents ownW (x :: l)) (left' := ents ownW l') (p := (k, ownW o)) (ks := .agg (kidS k)) (vs := .agg (ownS o)) (fun _ => rfl) (fun _ => rfl)
    have hd' : L.Perm ((done ++ [(k, o)]) ++ l') := by
      rw [List.append_assoc]
      exact hd.trans (List.Perm.append_left done hp)
    have hlt : l'.length < (x :: l).length := by have := hp.length_eq; simp only [List.length_cons] at this ⊢; omega
    have hmem : (k, o) ∈ L := hd'.mem_iff.2 (by simp)
    have c1 := look_owns M (hok _ hmem)
    cases hk : lkt M k with
    | none =>
      rw [hk] at c1
      rw [sameM_bad hmem (by rw [hk]; simp)]
      exact leaf_cut (rgK Tryz.prog EqO 8 [J]) _ _ calNone false 400 [hG 5 0 g1, hG 6 2 c1, .stop 8] calNone_ok (by kernel_rfl) (back (left := l') false)
    | some o' =>
      rw [hk] at c1
      by_cases he : o = o'
      · subst he
        have e1 : (!ownEq o o) = false := by rw [(ownEq_iff o o).2 rfl]; rfl
        unfold ownEq cpnEq legEq at e1
        exact leaf_round (lpK Tryz.prog EqO 0 []) false 400 [hG 5 0 g1, hG 6 2 c1, hB 7 5 _ _ e1] (hJ ⟨(done ++ [(k, o)], l'), hd', fun p hp => by
          rcases List.mem_append.1 hp with hp | hp
          · exact hdone p hp
          · rw [List.mem_singleton.1 hp]; exact hk⟩ hlt) (by kernel_rfl)
      · rw [sameM_bad hmem (by rw [hk]; intro e; cases e; exact he rfl)]
        have e1 : (!ownEq o o') = true := by rw [ownEq_no he]; rfl
        unfold ownEq cpnEq legEq at e1
        exact leaf_cut (rgK Tryz.prog EqO 8 [J]) _ _ calNone false 400 [hG 5 0 g1, hG 6 2 c1, hB 7 5 _ _ e1, .stop 8] calNone_ok (by kernel_rfl) (back (left := l') false)
  | nil =>
    rw [List.append_nil] at hd
    rw [sameM_mk hl fun p hp => hdone p (hd.mem_iff.1 hp)]
    exact leaf_cut (rgK Tryz.prog EqO 9 []) _ _ calNone false 400 [hG 4 0 d1, .stop 9] calNone_ok (by kernel_rfl) (back (left := []) true)
def EqH : Nat := 84
theorem eqH_w (m : Nat) (L M : HeldsV) : CallOK Tryz.prog EqH [.val (.map (some m)), .map 0 7] [((0, 7), heldsF M)] [((0, 6), .fam fun _ _ => mapC kidK m (ents heldW L))] (.val (.bool (sameM L M))) [((0, 6), .fam fun _ _ => mapC kidK m (ents heldW L))] := by
  have l1 := len_val (K := kidK) (m := m) (j := 6) (n := L.length) (L := ents heldW L) (by simp [ents])
  have l2 := len_map (P := Tryz.prog) (K := kidK) (enc := heldW) M
  by_cases hl : L.length = M.length
  case neg =>
    rw [sameM_len hl]
    have q0 : (!decide ((L.length : Int) = (M.length : Int))) = true := by simp; omega
    exact callOK_run 400 [hG 1 1 l1, hG 1 3 l2, hB 1 4 _ _ q0] (by kernel_rfl) (by kernel_rfl)
  have q0 : (!decide ((L.length : Int) = (M.length : Int))) = false := by simp; omega
  refine callOK_intro (by kernel_rfl) fun eb R => ?_
  refine go_open (X := { u : Unit // (L.map (·.1)).Nodup ∧ ∀ p ∈ L, KidOk p.1 }) (fun _ => [((0, 6), .fam fun _ _ => mapC kidK m (ents heldW L)), ((0, 7), heldsF M)])
    (fun ε w hM => by
      have hM : Mem (mapT kidK heldW M (ε 0 7).1 (ε 0 7).2 :: mapC kidK m (ents heldW L) :: R) w := hM
      have h1 := hM.front 1 rfl
      exact ⟨⟨(), map_facts h1⟩, h1⟩) (fun _ => by kernel_rfl) ?_
  rintro ⟨-, hn, hok⟩
  have r1 := rangeG (P := Tryz.prog) (K := kidK) (t := HT) (m := m) (j := 6) (L := ents heldW L) Tryz.underlying135
  have d1 := next_doneG (P := Tryz.prog) (K := kidK) (m := m) (L := ents heldW L)
  refine go_loop (X := { x : HeldsV × HeldsV // L.Perm (x.1 ++ x.2) ∧ ∀ p ∈ x.1, lkt M p.1 = some p.2 }) 0 [] (fun x => ([(1, .map 0 7), (15, .ptr 1 9 0)],
      [((0, 7), heldsF M), ((1, 9), .fam fun r _ => rngC kidK r m (ents heldW L) (ents heldW x.1.2))]))
    (fun x => x.1.2.length) ⟨([], L), List.Perm.refl _, fun p hp => by cases hp⟩ calNone false 400 [hG 1 1 l1, hG 1 3 l2, hB 1 4 _ _ q0, hG 3 1 r1] calNone_ok (by kernel_rfl) ?_
  rintro ⟨⟨done, left⟩, hd, hdone⟩ J hJ
  have back : ∀ {left : HeldsV} (b : Bool), Go Tryz.prog EqH (.val (.bool b)) ([((0, 7), heldsF M)] ++ [((0, 6), .fam fun _ _ => mapC kidK m (ents heldW L))]) eb R .nrm (rgK Tryz.prog EqH (bif b then 9 else 8) [J]) [] [((0, 7), heldsF M), ((1, 9), .fam fun r _ => rngC kidK r m (ents heldW L) (ents heldW left))] := fun {left} b => by
    refine go_open (X := Unit) (fun _ => [((0, 7), heldsF M), ((0, 6), .fam fun _ _ => mapC kidK m (ents heldW L))]) (fun ε w hM => ⟨(), by
      have hM : Mem (mapT kidK heldW M (ε 0 7).1 (ε 0 7).2 :: rngC kidK (ε 1 9).1 m (ents heldW L) (ents heldW left) :: R) w := hM
      exact ((hM.front 1 rfl).weaken (c' := mapC kidK m (ents heldW L)) fun S hS => ⟨hS.2.1, hS.2.2.map⟩).front 1 rfl⟩) (fun _ => by kernel_rfl) fun _ => ?_
    cases b
    · exact leaf_end calNone false 400 [] calNone_ok (by kernel_rfl)
    · exact leaf_end calNone false 400 [] calNone_ok (by kernel_rfl)
  cases left with
  | cons x l =>
    have m1 := next_moreG (P := Tryz.prog) (K := kidK) (m := m) (L := ents heldW L) (left := ents heldW (x :: l)) (by simp [ents])
    refine leaf_cut (rgK Tryz.prog EqH 5 [J]) [(1, .map 0 7), (15, .ptr 1 9 0)]
      [((1, 9), .fam fun r _ => exC fun (y : (Kid × Value) × List (Kid × Value)) => curC kidK r m (ents heldW L) (ents heldW (x :: l)) y.1 y.2), ((0, 7), heldsF M)]
      calNone false 400 [hG 4 0 m1, .stop 5] calNone_ok (by kernel_rfl) ?_
    refine go_open (X := { y : (Kid × HeldV) × HeldsV // (x :: l).Perm (y.1 :: y.2) }) (fun y => [((1, 9), .fam fun r _ => curC kidK r m (ents heldW L) (ents heldW (x :: l)) (y.1.1.1, heldW y.1.1.2) (ents heldW y.1.2)), ((0, 7), heldsF M)])
      (fun ε w hM => cur_typed hM) (fun y => by kernel_rfl) ?_
    rintro ⟨⟨⟨k, o⟩, l'⟩, hp⟩
    have g1 := entryG (P := Tryz.prog) (K := kidK) (m := m) (L := ents heldW L) (left := ents heldW (x :: l)) (left' := ents heldW l') (p := (k, heldW o)) (ks := .agg (kidS k)) (vs := .agg (heldS o)) (fun _ => rfl) (fun _ => rfl)
    have hd' : L.Perm ((done ++ [(k, o)]) ++ l') := by
      rw [List.append_assoc]
      exact hd.trans (List.Perm.append_left done hp)
    have hlt : l'.length < (x :: l).length := by have := hp.length_eq; simp only [List.length_cons] at this ⊢; omega
    have hmem : (k, o) ∈ L := hd'.mem_iff.2 (by simp)
    have c1 := look_helds M (hok _ hmem)
    cases hk : lkt M k with
    | none =>
      rw [hk] at c1
      rw [sameM_bad hmem (by rw [hk]; simp)]
      exact leaf_cut (rgK Tryz.prog EqH 8 [J]) _ _ calNone false 400 [hG 5 0 g1, hG 6 2 c1, .stop 8] calNone_ok (by kernel_rfl) (back (left := l') false)
    | some o' =>
      rw [hk] at c1
      by_cases he : o = o'
      · subst he
        have e1 : (!heldEq o o) = false := by rw [(heldEq_iff o o).2 rfl]; rfl
        unfold heldEq cpnEq legEq at e1
        exact leaf_round (lpK Tryz.prog EqH 0 []) false 400 [hG 5 0 g1, hG 6 2 c1, hB 7 5 _ _ e1] (hJ ⟨(done ++ [(k, o)], l'), hd', fun p hp => by
          rcases List.mem_append.1 hp with hp | hp
          · exact hdone p hp
          · rw [List.mem_singleton.1 hp]; exact hk⟩ hlt) (by kernel_rfl)
      · rw [sameM_bad hmem (by rw [hk]; intro e; cases e; exact he rfl)]
        have e1 : (!heldEq o o') = true := by rw [heldEq_no he]; rfl
        unfold heldEq cpnEq legEq at e1
        exact leaf_cut (rgK Tryz.prog EqH 8 [J]) _ _ calNone false 400 [hG 5 0 g1, hG 6 2 c1, hB 7 5 _ _ e1, .stop 8] calNone_ok (by kernel_rfl) (back (left := l') false)
  | nil =>
    rw [List.append_nil] at hd
    rw [sameM_mk hl fun p hp => hdone p (hd.mem_iff.1 hp)]
    exact leaf_cut (rgK Tryz.prog EqH 9 []) _ _ calNone false 400 [hG 4 0 d1, .stop 9] calNone_ok (by kernel_rfl) (back (left := []) true)
end Go.Proofs.YtlekbdpdlalhbaaGreat
end
section
namespace Go.Proofs.YtlekbdpdlalhbaaGreat
set_option maxRecDepth 100000
open Go.RowKit Go.Lib Go.Tk Go.Shelf Go.Vc Go.Sx Go.Maps
set_option linter.unusedVariables false
set_option linter.unusedSimpArgs false

def TSameF : Nat := 141
theorem tsame_w (F1 F2 : CF) {s o : SaleV} {A B : SaleA} (h1 : ∀ b v, Rd (F1 b v) A.la (cellsL encLeg s.legs)) (h2 : ∀ b v, Rd (F1 b v) A.ta (cellsL encTax s.taxes)) (h3 : ∀ b v, Rd (F2 b v) B.la (cellsL encLeg o.legs)) (h4 : ∀ b v, Rd (F2 b v) B.ta (cellsL encTax o.taxes))
    (n1 : A.la = none → A.lc = 0) (n2 : A.ta = none → A.tc = 0) (n3 : B.la = none → B.lc = 0) (n4 : B.ta = none → B.tc = 0) (ok1 : SaleOk s) (ok2 : SaleOk o) :
    CallOK Tryz.prog TSameF [.agg (salS s (.val (.slice A.la s.legs.length A.lc)) (.val (.slice A.ta s.taxes.length A.tc))), .agg (salS o (.val (.slice B.la o.legs.length B.lc)) (.val (.slice B.ta o.taxes.length B.tc)))] [((0, 11), .fam F1), ((0, 7), .fam F2)] [] (.val (.bool (decide (s = o)))) [] := by
  intro ε R w hM
  have hM : Mem (F1 (ε 0 11).1 (ε 0 11).2 :: F2 (ε 0 7).1 (ε 0 7).2 :: R) w := hM
  have hs : SaleAt w s A := ⟨(h1 _ _).row hM 0 rfl, (h2 _ _).row hM 0 rfl, n1, n2⟩
  have ho : SaleAt w o B := ⟨(h3 _ _).row hM 1 rfl, (h4 _ _).row hM 1 rfl, n3, n4⟩
  refine (same_any s o A B w hs ho ok1.nl ok2.nl ok1.nt ok2.nt).mono ?_
  rintro e w' ⟨rfl, hb⟩
  exact ⟨ε 1, rfl, by rw [eset_self]; exact hM.kept hb⟩
/-! ### lists of numbers -/
def EqIF : Nat := 142
theorem i64_nth {l : List Int} {i : Nat} (h : i < l.length) : ∀ (ε : Env) (q : Nat) (v : SV), ([.val (.int .i64 (l.getD i 0))] : List SV)[q]? = some v → (l.map (Value.int .i64))[i * 1 + q]? = some (v.den ε) := by
  intro ε q v hv
  cases q with
  | zero =>
    cases hv
    rw [Nat.mul_one, Nat.add_zero, List.getElem?_map, getD_some h 0]; rfl
  | succ q => cases hv
theorem eqI_w (F1 F2 : CF) {a1 a2 : Option Addr} {c1 c2 : Nat} {xs ys : List Int} (h1 : ∀ b v, Rd (F1 b v) a1 (xs.map (.int .i64))) (h2 : ∀ b v, Rd (F2 b v) a2 (ys.map (.int .i64))) (hl : xs.length ≤ 1073741824) :
    CallOK Tryz.prog EqIF [.val (.slice a1 xs.length c1), .val (.slice a2 ys.length c2)] [((0, 11), .fam F1), ((0, 7), .fam F2)] [] (.val (.bool (decide (xs = ys)))) [] := by
  by_cases hn : xs.length = ys.length
  case neg =>
    have q0 : (!decide ((xs.length : Int) = (ys.length : Int))) = true := by simp; omega
    rw [decide_eq_false (show ¬ xs = ys from fun e => hn (by rw [e]))]
    exact callOK_run 400 [hB 1 4 _ _ q0] (by kernel_rfl) (by kernel_rfl)
  have q0 : (!decide ((xs.length : Int) = (ys.length : Int))) = false := by simp; omega
  refine callOK_intro (by kernel_rfl) fun eb R => ?_
  refine go_loop (X := { i : Nat // i ≤ xs.length ∧ ∀ j, j < i → xs.getD j 0 = ys.getD j 0 }) 0 [] (fun x => ([(0, .val (.slice a1 xs.length c1)), (1, .val (.slice a2 ys.length c2)), (12, .val (.int .i64 (xs.length : Int))), (13, .val (.int .i64 (x.1 : Int)))], [((0, 11), .fam F1), ((0, 7), .fam F2)])) (fun x => xs.length - x.1) ⟨0, Nat.zero_le _, fun j hj => absurd hj (Nat.not_lt_zero _)⟩ calNone false 400 [hB 1 4 _ _ q0] calNone_ok (by kernel_rfl) ?_
  rintro ⟨i, hi, hd⟩ J hJ
  by_cases h : i < xs.length
  · have z0 : decide ((i : Int) < (xs.length : Int)) = true := decide_eq_true (by omega)
    have h' : i < ys.length := by omega
    have q1 := idx_openG (P := Tryz.prog) (t := 60) (e := 2) (size := 1) (j := 11) (k := .i64) (cap := c1) (n := xs.length) Tryz.underlying60 (by kernel_rfl) (by rw [List.length_map, Nat.mul_one]) h1 h
    have q2 := load_openG0 (P := Tryz.prog) (t := 2) (k := i * 1) (j := 11) (cs := [.val (.int .i64 (xs.getD i 0))]) (u := .val (.int .i64 (xs.getD i 0))) (by kernel_rfl) h1 (i64_nth h) (by rw [List.length_map]; omega)
    have q3 := idx_openG (P := Tryz.prog) (t := 60) (e := 2) (size := 1) (j := 7) (k := .i64) (cap := c2) (n := ys.length) Tryz.underlying60 (by kernel_rfl) (by rw [List.length_map, Nat.mul_one]) h2 h'
    have q4 := load_openG0 (P := Tryz.prog) (t := 2) (k := i * 1) (j := 7) (cs := [.val (.int .i64 (ys.getD i 0))]) (u := .val (.int .i64 (ys.getD i 0))) (by kernel_rfl) h2 (i64_nth h') (by rw [List.length_map]; omega)
    have q5 : IntKind.i64.wrap ((i : Int) + 1) = ((i + 1 : Nat) : Int) := by rw [wr_i64 (by omega)]; omega
    by_cases e : xs.getD i 0 = ys.getD i 0
    · have q6 : (!decide (xs.getD i 0 = ys.getD i 0)) = false := by rw [decide_eq_true e]; rfl
      have he := hid e
      clear e
      have hJ' := hJ ⟨i + 1, h, fun j hj => by
        by_cases q : j = i
        · subst q; exact he.out
        · exact hd j (by omega)⟩ (by show _ - (i + 1) < _ - i; omega)
      exact leaf_round (lpK Tryz.prog EqIF 0 []) false 400 [hB 4 0 _ _ z0, hG 6 2 q1, hG 6 3 q2, hG 6 6 q3, hG 6 7 q4, hB 6 8 _ _ q6, hI 8 0 IntKind.i64 _ _ q5] hJ' (by kernel_rfl)
    · have q6 : (!decide (xs.getD i 0 = ys.getD i 0)) = true := by rw [decide_eq_false e]; rfl
      rw [decide_eq_false (show ¬ xs = ys from fun e' => e (by rw [e']))]
      exact leaf_end calNone false 400 [hB 4 0 _ _ z0, hG 6 2 q1, hG 6 3 q2, hG 6 6 q3, hG 6 7 q4, hB 6 8 _ _ q6] calNone_ok (by kernel_rfl)
  · have z0 : decide ((i : Int) < (xs.length : Int)) = false := decide_eq_false (by omega)
    rw [decide_eq_true (show xs = ys from by
      refine List.ext_getElem hn fun j h3 h4 => ?_
      have := hd j (by omega)
      rw [List.getD_eq_getElem?_getD, List.getD_eq_getElem?_getD, List.getElem?_eq_getElem h3, List.getElem?_eq_getElem h4] at this
      exact this)]
    exact leaf_end calNone false 400 [hB 4 0 _ _ z0] calNone_ok (by kernel_rfl)
/-! ### five numbers -/
def isEqA (t : Nat) (o : Oper) : Bool := match o.op with
  | .binOp .eql t' _ _ _ => Nat.beq t' t
  | _ => false
def eqXY (o : Oper) : List Operand := match o.op with
  | .binOp .eql _ x y _ => [x, y]
  | _ => []
theorem run_items {P : Program} {w : World} {e : TypeId} {k : IntKind} (d : Nat) (he : P.underlying e = some (.int k)) (hp : P.plainKey e = true) (xs ys : List Int) : ∀ is : List Nat, (∀ i ∈ is, i < xs.length ∧ i < ys.length) →
    (Op.eqItems (d + 1) e 1 (xs.map (.int k)).toArray (ys.map (.int k)).toArray is).run P w = .ok (is.all fun i => xs.getD i 0 == ys.getD i 0) w
  | [], _ => by simp [Op.eqItems]
  | i :: is, h => by
    have ih := run_items (w := w) d he hp xs ys is fun j hj => h j (List.mem_cons_of_mem _ hj)
    obtain ⟨h1, h2⟩ := h i List.mem_cons_self
    have p1 : (part e (xs.map (Value.int k)).toArray (i * 1)).run P w = .ok (.int k (xs.getD i 0)) w := run_part_plain w hp (by rw [Nat.mul_one]; simp [h1])
    have p2 : (part e (ys.map (Value.int k)).toArray (i * 1)).run P w = .ok (.int k (ys.getD i 0)) w := run_part_plain w hp (by rw [Nat.mul_one]; simp [h2])
    have p3 := run_equalIn_int (P := P) w d e k k (xs.getD i 0) (ys.getD i 0) he
    simp only [Op.eqItems, Sem.run_bind, p1, p2, p3, Result.andThen_ok, List.all_cons]
    cases xs.getD i 0 == ys.getD i 0
    · simp
    · simpa using ih
def fiveL (d : DocV) : List Int := [d.credit, d.paid, d.back, d.kept, d.left]
def i64S (l : List Int) : List SV := l.map fun x => .val (.int .i64 x)
theorem i64S_den (l : List Int) (ε : Env) : SV.dens ε (i64S l) = l.map (.int .i64) := by
  induction l with
  | nil => rfl
  | cons x l ih => show _ :: SV.dens ε (i64S l) = _; rw [ih]; rfl
theorem eq5_w (d e : DocV) : OpG Tryz.prog (isEqA 221) eqXY [.agg (i64S (fiveL d)), .agg (i64S (fiveL e))] [] [] (.val (.bool (decide (fiveL d = fiveL e)))) [] := by
  intro o ho
  unfold isEqA at ho
  split at ho <;> try (cases ho; done)
  rename_i t' x y t2 hop
  have e1 := Nat.eq_of_beq_eq_true ho
  subst e1
  have hx' : eqXY o = [x, y] := by unfold eqXY; rw [hop]
  rw [hx']
  refine eq_agg hop (by kernel_rfl) (fun ε => by simp only [SV.den]; rw [i64S_den]) (fun ε => by simp only [SV.den]; rw [i64S_den]) fun w => ?_
  rw [show (10000 : Nat) = 9999 + 1 from rfl, run_equalIn_array (P := Tryz.prog) w 9999 (n := 5) (e := 2) _ _ Tryz.underlying221 (show Tryz.prog.info? 2 = some _ from rfl)]
  rw [show Tryz.prog.cellsOf 2 = 1 by kernel_rfl, run_items 9998 Tryz.underlying2 (by kernel_rfl) (fiveL d) (fiveL e) (List.range 5) (fun i hi => by rw [List.mem_range] at hi; exact ⟨hi, hi⟩)]
  congr 1
  rw [Bool.eq_iff_iff, decide_eq_true_eq, List.all_eq_true]
  constructor
  · intro h
    refine List.ext_getElem rfl fun i h1 h2 => ?_
    have := h i (List.mem_range.2 h1)
    rw [List.getD_eq_getElem?_getD, List.getD_eq_getElem?_getD, List.getElem?_eq_getElem h1, List.getElem?_eq_getElem h2] at this
    simpa using this
  · intro h i _
    rw [h]; simp
end Go.Proofs.YtlekbdpdlalhbaaGreat
end
section
namespace Go.Proofs.YtlekbdpdlalhbaaGreat
set_option maxRecDepth 100000
open Go.RowKit Go.Lib Go.Tk Go.Shelf Go.Vc Go.Sx Go.Maps
set_option linter.unusedVariables false
set_option linter.unusedSimpArgs false

def AlikeF : Nat := 82
structure DocRd (F : CF) (d : DocV) (a : DocA) : Prop where
  hl : ∀ b v, Rd (F b v) a.la (cellsL encLeg d.s.legs)
  ht : ∀ b v, Rd (F b v) a.ta (cellsL encTax d.s.taxes)
  hv : ∀ b v, Rd (F b v) a.va (d.vals.map (.int .i64))
  nl : a.la = none → a.lc = 0
  nt : a.ta = none → a.tc = 0
def tEq (a b : Tid) : Bool := decide (a.c = b.c) && (decide (a.r = b.r) && true)
theorem tEq_iff (a b : Tid) : tEq a b = true ↔ a = b := by
  obtain ⟨a1, a2⟩ := a
  obtain ⟨b1, b2⟩ := b
  simp [tEq]
theorem tEq_no {a b : Tid} (h : tEq a b = false) : a ≠ b := fun e => by rw [(tEq_iff a b).2 e] at h; cases h
theorem alike_w (F1 F2 : CF) {d e : DocV} {a b : DocA} (r1 : DocRd F1 d a) (r2 : DocRd F2 e b) (ok1 : SaleOk d.s) (ok2 : SaleOk e.s) (hv : d.vals.length ≤ 1073741824) :
    CallOK Tryz.prog AlikeF [.agg (docSA d a), .agg (docSA e b)] [((0, 11), .fam F1), ((0, 7), .fam F2)] [] (.val (.bool (decide (d = e)))) [] := by
  have c1 := tsame_w F1 F2 (A := ⟨a.la, a.lc, a.ta, a.tc⟩) (B := ⟨b.la, b.lc, b.ta, b.tc⟩) r1.hl r1.ht r2.hl r2.ht r1.nl r1.nt r2.nl r2.nt ok1 ok2
  have c2 := eqI_w F1 F2 (c1 := a.vc) (c2 := b.vc) r1.hv r2.hv hv
  have c3 := eq5_w d e
  have no : d ≠ e → (false : Bool) = decide (d = e) := fun h => (decide_eq_false h).symm
  rcases Bool.eq_false_or_eq_true (decide (d.s = e.s)) with h1 | h1
  case inr =>
    rw [← no fun q => of_decide_eq_false h1 (by rw [q])]
    exact callOK_run 400 [hC 1 4 c1, hB 1 4 _ _ h1] (by kernel_rfl) (by kernel_rfl)
  rcases Bool.eq_false_or_eq_true (decide (d.vals = e.vals)) with h2 | h2
  case inr =>
    rw [← no fun q => of_decide_eq_false h2 (by rw [q])]
    exact callOK_run 400 [hC 1 4 c1, hB 1 4 _ _ h1, hC 1 10 c2, hB 1 10 _ _ h2] (by kernel_rfl) (by kernel_rfl)
  rcases Bool.eq_false_or_eq_true (tEq d.t e.t) with h3 | h3
  case inr =>
    rw [← no fun q => tEq_no h3 (by rw [q])]
    unfold tEq at h3
    exact callOK_run 400 [hC 1 4 c1, hB 1 4 _ _ h1, hC 1 10 c2, hB 1 10 _ _ h2, hB 1 17 _ _ h3] (by kernel_rfl) (by kernel_rfl)
  rcases Bool.eq_false_or_eq_true (tEq d.frm e.frm) with h4 | h4
  case inr =>
    rw [← no fun q => tEq_no h4 (by rw [q])]
    unfold tEq at h3 h4
    exact callOK_run 400 [hC 1 4 c1, hB 1 4 _ _ h1, hC 1 10 c2, hB 1 10 _ _ h2, hB 1 17 _ _ h3, hB 1 24 _ _ h4] (by kernel_rfl) (by kernel_rfl)
  rcases Bool.eq_false_or_eq_true (tEq d.dst e.dst) with h5 | h5
  case inr =>
    rw [← no fun q => tEq_no h5 (by rw [q])]
    unfold tEq at h3 h4 h5
    exact callOK_run 400 [hC 1 4 c1, hB 1 4 _ _ h1, hC 1 10 c2, hB 1 10 _ _ h2, hB 1 17 _ _ h3, hB 1 24 _ _ h4, hB 1 31 _ _ h5] (by kernel_rfl) (by kernel_rfl)
  rcases Bool.eq_false_or_eq_true (decide (fiveL d = fiveL e)) with h6 | h6
  case inr =>
    rw [← no fun q => of_decide_eq_false h6 (by rw [q])]
    unfold tEq at h3 h4 h5
    exact callOK_run 400 [hC 1 4 c1, hB 1 4 _ _ h1, hC 1 10 c2, hB 1 10 _ _ h2, hB 1 17 _ _ h3, hB 1 24 _ _ h4, hB 1 31 _ _ h5, hG 1 56 c3, hB 1 56 _ _ h6] (by kernel_rfl) (by kernel_rfl)
  have he : d = e := by
    have g1 := of_decide_eq_true h1
    have g2 := of_decide_eq_true h2
    have g3 := (tEq_iff _ _).1 h3
    have g4 := (tEq_iff _ _).1 h4
    have g5 := (tEq_iff _ _).1 h5
    have g6 := of_decide_eq_true h6
    obtain ⟨t, s, vs, f, x, q1, q2, q3, q4, q5⟩ := d
    obtain ⟨t', s', vs', f', x', p1, p2, p3, p4, p5⟩ := e
    simp only [fiveL, List.cons.injEq, and_true] at g6
    simp only at g1 g2 g3 g4 g5
    obtain ⟨k1, k2, k3, k4, k5⟩ := g6
    subst g1 g2 g3 g4 g5 k1 k2 k3 k4 k5
    rfl
  rw [decide_eq_true he]
  clear he no
  unfold tEq at h3 h4 h5
  exact callOK_run 400 [hC 1 4 c1, hB 1 4 _ _ h1, hC 1 10 c2, hB 1 10 _ _ h2, hB 1 17 _ _ h3, hB 1 24 _ _ h4, hB 1 31 _ _ h5, hG 1 56 c3, hB 1 56 _ _ h6] (by kernel_rfl) (by kernel_rfl)
/-! ### the documents of a book -/
def dKV (ds : List DocV) : List (Tid × DocV) := ds.map fun d => (d.t, d)
theorem lkt_dKV (t : Tid) : ∀ M : List (DocV × DocA), lkt (dKV (M.map (·.1))) t = (lkt (docKV M) t).map (·.1)
  | [] => rfl
  | p :: M => by
    show (if p.1.t = t then some p.1 else lkt (dKV (M.map (·.1))) t) = ((if p.1.t = t then some p else lkt (docKV M) t) : Option (DocV × DocA)).map (·.1)
    rw [lkt_dKV t M]
    split <;> rfl
structure DocsOk (L : List (DocV × DocA)) : Prop where
  sal : ∀ p ∈ L, SaleOk p.1.s
  vl : ∀ p ∈ L, p.1.vals.length ≤ 1073741824
def NilsOk (p : DocV × DocA) : Prop := (p.2.la = none → p.2.lc = 0) ∧ (p.2.ta = none → p.2.tc = 0)
theorem rows_rd {L : List (DocV × DocA)} {p : DocV × DocA} (hp : p ∈ L) (hn : NilsOk p) : DocRd (fun _ _ => rowsC L) p.1 p.2 :=
  ⟨fun b v S w h => (h p hp).legs, fun b v S w h => (h p hp).taxes, fun b v S w h => (h p hp).vals, hn.1, hn.2⟩
theorem docsF_rd {L : List (DocV × DocA)} {p : DocV × DocA} (hp : p ∈ L) (hn : NilsOk p) : DocRd (docsF L) p.1 p.2 := by
  have h := docs_rd (L := L) (M := []) (.inl hp)
  exact ⟨h.1, h.2.1, h.2.2, hn.1, hn.2⟩
def EqDF : Nat := 81
theorem eqD_w (m : Nat) (L M : List (DocV × DocA)) (ok1 : DocsOk L) (ok2 : DocsOk M) : CallOK Tryz.prog EqDF [.val (.map (some m)), .map 0 7, .fn (.func AlikeF) [] []] [((0, 11), .fam fun _ _ => rowsC L), ((0, 7), .fam (docsF M))] [((0, 12), .fam fun _ _ => mapC tidK m (ents docW (docKV L)))]
    (.val (.bool (sameM (dKV (L.map (·.1))) (dKV (M.map (·.1)))))) [((0, 12), .fam fun _ _ => mapC tidK m (ents docW (docKV L)))] := by
  have l1 := len_val (K := tidK) (m := m) (j := 12) (n := L.length) (L := ents docW (docKV L)) (by simp [ents, docKV])
  have l2 := len_docs M []
  have e1 : (dKV (L.map (·.1))).length = L.length := by simp [dKV]
  have e2 : (dKV (M.map (·.1))).length = M.length := by simp [dKV]
  by_cases hl : L.length = M.length
  case neg =>
    rw [sameM_len (by rw [e1, e2]; exact hl)]
    clear e1 e2
    have q0 : (!decide ((L.length : Int) = (M.length : Int))) = true := by simp; omega
    exact callOK_run 400 [hG 1 1 l1, hG 1 3 l2, hB 1 4 _ _ q0] (by kernel_rfl) (by kernel_rfl)
  have hs : (dKV (L.map (·.1))).length = (dKV (M.map (·.1))).length := by rw [e1, e2]; exact hl
  have hs := hid hs
  have hl := hid hl
  have q0 : (!decide ((L.length : Int) = (M.length : Int))) = false := by have := hl.out; simp; omega
  clear e1 e2
  refine callOK_intro (by kernel_rfl) fun eb R => ?_
  refine go_open (X := { u : Unit // (∀ p ∈ docKV L, TidOk p.1) ∧ (∀ p ∈ L, NilsOk p) ∧ ∀ p ∈ M, NilsOk p }) (fun _ => [((0, 12), .fam fun _ _ => mapC tidK m (ents docW (docKV L))), ((0, 11), .fam fun _ _ => rowsC L), ((0, 7), .fam (docsF M))])
    (fun ε w hM => by
      have hM : Mem (rowsC L :: docsF M (ε 0 7).1 (ε 0 7).2 :: mapC tidK m (ents docW (docKV L)) :: R) w := hM
      have h1 := hM.front 2 rfl
      refine ⟨⟨(), (map_facts h1).2, fun p hp => ?_, fun p hp => ?_⟩, h1⟩
      · refine hM.of 0 rfl (φ := NilsOk p) fun S hS => ?_
        have := hS p hp
        exact ⟨fun e => (this.okl.nil e).2, fun e => (this.okt.nil e).2⟩
      · have h2 := docs_ok (L := M) (M := []) (p := p) (.inl hp) (hM.front 1 rfl)
        exact ⟨fun e => (h2.1.nil e).2, fun e => (h2.2.1.nil e).2⟩) (fun _ => by kernel_rfl) ?_
  rintro ⟨-, hok, hn1, hn2⟩
  have r1 := rangeG (P := Tryz.prog) (K := tidK) (t := DT) (m := m) (j := 12) (L := ents docW (docKV L)) Tryz.underlying133
  have d1 := next_doneG (P := Tryz.prog) (K := tidK) (m := m) (L := ents docW (docKV L))
  refine go_loop (X := { x : List (Tid × (DocV × DocA)) × List (Tid × (DocV × DocA)) // (docKV L).Perm (x.1 ++ x.2) ∧ ∀ p ∈ x.1, lkt (dKV (M.map (·.1))) p.1 = some p.2.1 }) 0 [] (fun x => ([(1, .map 0 7), (2, .fn (.func AlikeF) [] []), (17, .ptr 1 9 0)],
      [((0, 11), .fam fun _ _ => rowsC L), ((0, 7), .fam (docsF M)), ((1, 9), .fam fun r _ => rngC tidK r m (ents docW (docKV L)) (ents docW x.1.2))]))
    (fun x => x.1.2.length) ⟨([], docKV L), List.Perm.refl _, fun p hp => by cases hp⟩ calNone false 400 [hG 1 1 l1, hG 1 3 l2, hB 1 4 _ _ q0, hG 3 1 r1] calNone_ok (by kernel_rfl) ?_
  rintro ⟨⟨done, left⟩, hd, hdone⟩ J hJ
  have back : ∀ {left : List (Tid × (DocV × DocA))} (b : Bool), Go Tryz.prog EqDF (.val (.bool b)) ([((0, 11), .fam fun _ _ => rowsC L), ((0, 7), .fam (docsF M))] ++ [((0, 12), .fam fun _ _ => mapC tidK m (ents docW (docKV L)))]) eb R .nrm (rgK Tryz.prog EqDF (bif b then 9 else 8) [J]) [] [((0, 11), .fam fun _ _ => rowsC L), ((0, 7), .fam (docsF M)), ((1, 9), .fam fun r _ => rngC tidK r m (ents docW (docKV L)) (ents docW left))] := fun {left} b => by
    refine go_open (X := Unit) (fun _ => [((0, 12), .fam fun _ _ => mapC tidK m (ents docW (docKV L))), ((0, 11), .fam fun _ _ => rowsC L), ((0, 7), .fam (docsF M))]) (fun ε w hM => ⟨(), by
      have hM : Mem (rowsC L :: docsF M (ε 0 7).1 (ε 0 7).2 :: rngC tidK (ε 1 9).1 m (ents docW (docKV L)) (ents docW left) :: R) w := hM
      exact (hM.front 2 rfl).weaken (c' := mapC tidK m (ents docW (docKV L))) fun S hS => ⟨hS.2.1, hS.2.2.map⟩⟩) (fun _ => by kernel_rfl) fun _ => ?_
    cases b
    · exact leaf_end calNone false 400 [] calNone_ok (by kernel_rfl)
    · exact leaf_end calNone false 400 [] calNone_ok (by kernel_rfl)
  have toL : ∀ p ∈ docKV L, (p.1, p.2.1) ∈ dKV (L.map (·.1)) := fun p hp => by
    obtain ⟨q, hq, rfl⟩ := List.mem_map.1 hp
    exact List.mem_map.2 ⟨q.1, List.mem_map_of_mem hq, rfl⟩
  cases left with
  | cons x l =>
    have m1 := next_moreG (P := Tryz.prog) (K := tidK) (m := m) (L := ents docW (docKV L)) (left := ents docW (x :: l)) (by simp [ents])
    refine leaf_cut (rgK Tryz.prog EqDF 5 [J]) [(1, .map 0 7), (2, .fn (.func AlikeF) [] []), (17, .ptr 1 9 0)]
      [((1, 9), .fam fun r _ => exC fun (y : (Tid × Value) × List (Tid × Value)) => curC tidK r m (ents docW (docKV L)) (ents docW (x :: l)) y.1 y.2), ((0, 11), .fam fun _ _ => rowsC L), ((0, 7), .fam (docsF M))]
      calNone false 400 [hG 4 0 m1, .stop 5] calNone_ok (by kernel_rfl) ?_
    refine go_open (X := { y : (Tid × (DocV × DocA)) × List (Tid × (DocV × DocA)) // (x :: l).Perm (y.1 :: y.2) }) (fun y => [((1, 9), .fam fun r _ => curC tidK r m (ents docW (docKV L)) (ents docW (x :: l)) (y.1.1.1, docW y.1.1.2) (ents docW y.1.2)), ((0, 11), .fam fun _ _ => rowsC L), ((0, 7), .fam (docsF M))])
      (fun ε w hM => cur_typed hM) (fun y => by kernel_rfl) ?_
    rintro ⟨⟨⟨k, p⟩, l'⟩, hp⟩
    have hd' : (docKV L).Perm ((done ++ [(k, p)]) ++ l') := by
      rw [List.append_assoc]
      exact hd.trans (List.Perm.append_left done hp)
    have hlt : l'.length < (x :: l).length := by have := hp.length_eq; simp only [List.length_cons] at this ⊢; omega
    have hmem : (k, p) ∈ docKV L := hd'.mem_iff.2 (by simp)
    have hmd := toL _ hmem
    obtain ⟨q, hq, hqe⟩ := List.mem_map.1 hmem
    injection hqe with e1 e2
    subst e2
    subst e1
    have hk := hok _ hmem
    have g1 := entryG (P := Tryz.prog) (K := tidK) (m := m) (L := ents docW (docKV L)) (left := ents docW (x :: l)) (left' := ents docW l') (p := (q.1.t, docW q)) (ks := .agg (tidS q.1.t)) (vs := .agg (docSA q.1 q.2)) (fun _ => rfl) (fun _ => rfl)
    have c1 := look_docs M [] (t := q.1.t) hk
    have hlk := lkt_dKV q.1.t M
    cases hf : lkt (docKV M) q.1.t with
    | none =>
      rw [hf] at c1 hlk
      rw [sameM_bad hmd (by rw [hlk]; simp)]
      clear hlk
      exact leaf_cut (rgK Tryz.prog EqDF 8 [J]) _ _ calNone false 400 [hG 5 0 g1, hG 6 2 c1, .stop 8] calNone_ok (by kernel_rfl) (back (left := l') false)
    | some r =>
      rw [hf] at c1 hlk
      have hr := (mem_kv hf).1
      have c2 := alike_w (fun _ _ => rowsC L) (docsF M) (rows_rd hq (hn1 q hq)) (docsF_rd hr (hn2 r hr)) (ok1.sal q hq) (ok2.sal r hr) (ok1.vl q hq)
      rcases Bool.eq_false_or_eq_true (decide (q.1 = r.1)) with he | he
      · have hJ' := hJ ⟨(done ++ [(q.1.t, q)], l'), hd', fun p hp => by
          rcases List.mem_append.1 hp with hp | hp
          · exact hdone p hp
          · rw [List.mem_singleton.1 hp]
            show lkt (dKV (M.map (·.1))) q.1.t = some q.1
            rw [hlk, of_decide_eq_true he]; rfl⟩ hlt
        exact leaf_round (lpK Tryz.prog EqDF 0 []) false 400 [hG 5 0 g1, hG 6 2 c1, hC 7 6 c2, hB 7 6 _ _ he] hJ' (by kernel_rfl)
      · rw [sameM_bad hmd (by rw [hlk]; intro e; injection e with e; exact of_decide_eq_false he e.symm)]
        clear hlk
        exact leaf_cut (rgK Tryz.prog EqDF 8 [J]) _ _ calNone false 400 [hG 5 0 g1, hG 6 2 c1, hC 7 6 c2, hB 7 6 _ _ he, .stop 8] calNone_ok (by kernel_rfl) (back (left := l') false)
  | nil =>
    rw [List.append_nil] at hd
    rw [sameM_mk hs.out fun p hp => by
      obtain ⟨d, hd0, rfl⟩ := List.mem_map.1 hp
      obtain ⟨q, hq, rfl⟩ := List.mem_map.1 hd0
      exact hdone (q.1.t, q) (hd.mem_iff.1 (List.mem_map_of_mem (f := fun p : DocV × DocA => (p.1.t, p)) hq))]
    exact leaf_cut (rgK Tryz.prog EqDF 9 []) _ _ calNone false 400 [hG 4 0 d1, .stop 9] calNone_ok (by kernel_rfl) (back (left := []) true)
end Go.Proofs.YtlekbdpdlalhbaaGreat
end
section
namespace Go.Proofs.YtlekbdpdlalhbaaGreat
set_option maxRecDepth 100000
open Go.RowKit Go.Lib Go.Tk Go.Shelf Go.Vc Go.Sx Go.Maps
set_option linter.unusedVariables false
set_option linter.unusedSimpArgs false

theorem eqO_r (m : Nat) (L M : OwnsV) : CallOK Tryz.prog EqO [.val (.map (some m)), .map 0 7] [((0, 7), ownsF M), ((0, 5), .fam fun _ _ => mapC kidK m (ents ownW L))] [] (.val (.bool (sameM L M))) [] :=
  CallOK.to_rd (rd := [((0, 7), ownsF M), ((0, 5), .fam fun _ _ => mapC kidK m (ents ownW L))]) (pre := []) (post := []) (eqO_w m L M).of_rd
theorem eqH_r (m : Nat) (L M : HeldsV) : CallOK Tryz.prog EqH [.val (.map (some m)), .map 0 7] [((0, 7), heldsF M), ((0, 6), .fam fun _ _ => mapC kidK m (ents heldW L))] [] (.val (.bool (sameM L M))) [] :=
  CallOK.to_rd (rd := [((0, 7), heldsF M), ((0, 6), .fam fun _ _ => mapC kidK m (ents heldW L))]) (pre := []) (post := []) (eqH_w m L M).of_rd
theorem eqD_r (m : Nat) (L M : List (DocV × DocA)) (ok1 : DocsOk L) (ok2 : DocsOk M) : CallOK Tryz.prog EqDF [.val (.map (some m)), .map 0 7, .fn (.func AlikeF) [] []] [((0, 11), .fam fun _ _ => rowsC L), ((0, 7), .fam (docsF M)), ((0, 12), .fam fun _ _ => mapC tidK m (ents docW (docKV L)))] [] (.val (.bool (sameM (dKV (L.map (·.1))) (dKV (M.map (·.1)))))) [] :=
  CallOK.to_rd (rd := [((0, 11), .fam fun _ _ => rowsC L), ((0, 7), .fam (docsF M)), ((0, 12), .fam fun _ _ => mapC tidK m (ents docW (docKV L)))]) (pre := []) (post := []) (eqD_w m L M ok1 ok2).of_rd
def SameBF : Nat := 20
def sameB (B C : BookV) : Bool := decide (B.self = C.self) && (decide (B.n = C.n) && (sameM (dKV B.docs) (dKV C.docs) && (sameM B.owns C.owns && sameM B.helds C.helds)))
def sameH (B C : BookV) (a : BkA) (L M : List (DocV × DocA)) : Heap := [((0, 20), oldB B a), ((0, 12), .fam fun _ _ => mapC tidK a.d (ents docW (docKV L))), ((0, 11), .fam fun _ _ => rowsC L), ((0, 5), .fam fun _ _ => mapC kidK a.o (ents ownW B.owns)), ((0, 6), .fam fun _ _ => mapC kidK a.h (ents heldW B.helds))] ++ bkH (docsF M) C
theorem same_open (B C : BookV) (a : BkA) {L M : List (DocV × DocA)} (hL : L.map (·.1) = B.docs) (hM : M.map (·.1) = C.docs) (ok1 : DocsOk L) (ok2 : DocsOk M) : CallOK Tryz.prog SameBF [.ptr 0 20 0, .ptr 0 0 0] (sameH B C a L M) [] (.val (.bool (sameB B C))) [] := by
  have c1 := eqD_r a.d L M ok1 ok2
  rw [hL, hM] at c1
  have c2 := eqO_r a.o B.owns C.owns
  have c3 := eqH_r a.h B.helds C.helds
  clear hL hM
  have hS : sameB B C = (decide (B.self = C.self) && (decide (B.n = C.n) && (sameM (dKV B.docs) (dKV C.docs) && (sameM B.owns C.owns && sameM B.helds C.helds)))) := rfl
  generalize sameM (dKV B.docs) (dKV C.docs) = b1 at *
  generalize sameM B.owns C.owns = b2 at *
  generalize sameM B.helds C.helds = b3 at *
  rw [hS]
  clear hS
  rcases Bool.eq_false_or_eq_true (decide (B.self = C.self)) with h1 | h1 <;> rw [h1]
  case inr => exact callOK_run 400 [hB 3 8 _ _ h1] (by kernel_rfl) (by kernel_rfl)
  rcases Bool.eq_false_or_eq_true (decide (B.n = C.n)) with h2 | h2 <;> rw [h2]
  case inr => exact callOK_run 400 [hB 3 8 _ _ h1, hB 3 18 _ _ h2] (by kernel_rfl) (by kernel_rfl)
  cases b1
  · exact callOK_run 400 [hB 3 8 _ _ h1, hB 3 18 _ _ h2, hC 3 29 c1] (by kernel_rfl) (by kernel_rfl)
  cases b2
  · exact callOK_run 400 [hB 3 8 _ _ h1, hB 3 18 _ _ h2, hC 3 29 c1, hC 3 40 c2] (by kernel_rfl) (by kernel_rfl)
  cases b3
  · exact callOK_run 400 [hB 3 8 _ _ h1, hB 3 18 _ _ h2, hC 3 29 c1, hC 3 40 c2, hC 3 51 c3] (by kernel_rfl) (by kernel_rfl)
  · exact callOK_run 400 [hB 3 8 _ _ h1, hB 3 18 _ _ h2, hC 3 29 c1, hC 3 40 c2, hC 3 51 c3] (by kernel_rfl) (by kernel_rfl)
structure DsOk (ds : List DocV) : Prop where
  sal : ∀ d ∈ ds, SaleOk d.s
  vl : ∀ d ∈ ds, d.vals.length ≤ 1073741824
theorem DsOk.docs {ds : List DocV} (h : DsOk ds) {L : List (DocV × DocA)} (hL : L.map (·.1) = ds) : DocsOk L := ⟨fun p hp => h.sal _ (hL ▸ List.mem_map_of_mem hp), fun p hp => h.vl _ (hL ▸ List.mem_map_of_mem hp)⟩
theorem same_w0 (B C : BookV) (ok1 : DsOk B.docs) (ok2 : DsOk C.docs) : CallOK Tryz.prog SameBF [.ptr 0 20 0, .ptr 0 0 0] [((0, 20), .fam (bookF B))] (bkH (docsX C.docs) C) (.val (.bool (sameB B C))) (bkH (docsX C.docs) C) := by
  intro ε R w hM
  have hM : Mem (bookF B (ε 0 20).1 (ε 0 20).2 :: boxE none (ε 0 0).1 #[.int .u8 C.self, .int .i64 C.n, .map (some (ε 0 1).1), .map (some (ε 0 2).1), .map (some (ε 0 3).1)] :: docsX C.docs (ε 0 1).1 (ε 0 1).2 :: mapT kidK ownW C.owns (ε 0 2).1 (ε 0 2).2 :: mapT kidK heldW C.helds (ε 0 3).1 (ε 0 3).2 :: R) w := hM
  obtain ⟨a, h⟩ := Mem.ex hM
  have h2 := h.all.front 1 rfl
  obtain ⟨⟨L, hL⟩, h3⟩ := Mem.ex h2
  have h4 := docs_split h3
  have h5 := h4.front 6 rfl
  obtain ⟨⟨M, hM'⟩, h6⟩ := Mem.ex h5
  have h7 := ((((((((h6.front 8 rfl).front 8 rfl).front 2 rfl).front 8 rfl).front 8 rfl).front 8 rfl).front 7 rfl).front 7 rfl).front 8 rfl
  refine ((same_open B C a hL hM' (ok1.docs hL) (ok2.docs hM')).of_rd.post_mono (post' := [((0, 20), .fam (bookF B))] ++ bkH (docsX C.docs) C) (fun ε R w hm => ?_)) ε R w h7
  have hm : Mem (boxE none (ε 0 20).1 #[.int .u8 B.self, .int .i64 B.n, .map (some a.d), .map (some a.o), .map (some a.h)] :: mapC tidK a.d (ents docW (docKV L)) :: rowsC L :: mapC kidK a.o (ents ownW B.owns) :: mapC kidK a.h (ents heldW B.helds) :: boxE none (ε 0 0).1 #[.int .u8 C.self, .int .i64 C.n, .map (some (ε 0 1).1), .map (some (ε 0 2).1), .map (some (ε 0 3).1)] :: docsF M (ε 0 1).1 (ε 0 1).2 :: mapT kidK ownW C.owns (ε 0 2).1 (ε 0 2).2 :: mapT kidK heldW C.helds (ε 0 3).1 (ε 0 3).2 :: R) w := hm
  have k1 := docs_shut (v := undef) (((hm.front 1 rfl).front 2 rfl).front 1 rfl)
  have k2 : Mem (docsX B.docs a.d undef :: _) w := Mem.in_ex ⟨L, hL⟩ k1
  have k3 := Mem.in_ex (f := fun y : BkA => allC [boxE none (ε 0 20).1 #[.int .u8 B.self, .int .i64 B.n, .map (some y.d), .map (some y.o), .map (some y.h)], docsX B.docs y.d undef, mapT kidK ownW B.owns y.o undef, mapT kidK heldW B.helds y.h undef]) a (Mem.in_all (l := [_, _, _, _]) (k2.front 1 rfl))
  have k4 : Mem (docsX C.docs (ε 0 1).1 (ε 0 1).2 :: _) w := Mem.in_ex ⟨M, hM'⟩ (k3.front 2 rfl)
  exact (((k4.front 1 rfl).front 2 rfl).front 1 rfl)
theorem same_c (B C : BookV) (ok1 : DsOk B.docs) (ok2 : DsOk C.docs) : CallOK Tryz.prog SameBF [.ptr 0 20 0, .ptr 0 0 0] [((0, 20), .fam (bookF B))] (bkC C) (.val (.bool (sameB B C))) (bkC C) :=
  shut (post := []) (B := C) (B' := C) (same_w0 B C ok1 ok2) rfl rfl rfl rfl
theorem sameB_docs {B C : BookV} (h : B.docs.length ≠ C.docs.length) : sameB B C = false := by
  unfold sameB
  rw [show sameM (dKV B.docs) (dKV C.docs) = false from sameM_len (by simpa [dKV] using h)]
  simp
theorem sameB_self {B : BookV} (h1 : (B.docs.map (·.t)).Nodup) (h2 : (B.owns.map (·.1)).Nodup) (h3 : (B.helds.map (·.1)).Nodup) : sameB B B = true := by
  unfold sameB
  rw [sameM_self (L := dKV B.docs) (by unfold dKV; rw [List.map_map]; exact h1), sameM_self h2, sameM_self h3]
  simp
end Go.Proofs.YtlekbdpdlalhbaaGreat
end
section
namespace Go.Proofs.YtlekbdpdlalhbaaGreat
set_option maxRecDepth 100000
open Go.RowKit Go.Lib Go.Tk Go.Shelf Go.Vc Go.Sx
set_option linter.unusedVariables false
set_option linter.unusedSimpArgs false

theorem ExOk.ds {B : BookV} (h : ExOk B) : DsOk B.docs := ⟨h.sal, fun d hd => (h.sm d hd).nv⟩
theorem ExOk.cl {B : BookV} (h : ExOk B) : ∀ d ∈ B.docs, TidOk d.t ∧ DocSmall d := fun d hd => ⟨tid_docs h.bk hd, h.sm d hd⟩
theorem book_facts {B : BookV} {b : Nat} {v : Value} {R : List Chunk} {w : World} (h : Mem (bookF B b v :: R) w) : (B.owns.map (·.1)).Nodup ∧ (B.helds.map (·.1)).Nodup := by
  obtain ⟨a, h1⟩ := Mem.ex h
  have h2 := h1.all
  have h3 : Mem (mapC kidK a.o (ents ownW B.owns) :: _) w := h2.front 2 rfl
  have h4 : Mem (mapC kidK a.h (ents heldW B.helds) :: _) w := h2.front 3 rfl
  exact ⟨(map_facts h3).1, (map_facts h4).1⟩
def MChkF : Nat := 61
theorem mchk_w {a : Int} (h : mayI a = true) : CallOK Tryz.prog MChkF [.val (.int .i64 a)] [] [] (eN 0) [] := by
  have e : errI a = 0 := by unfold errI; rw [h]; rfl
  have c : CallOK Tryz.prog MChkF [.val (.int .i64 a)] [] [] (eN (errI a)) [] := callOK_pure fun ε w => check_any a w
  rw [e] at c
  exact c
def LeavesF17 : Nat := 12
def lvSl (a : Option Addr) (n cap : Nat) (b : Option Addr) (m cap2 i : Nat) (e : Int) : Slots := balSl a n cap b m cap2 i ++ [(9, .ptr 1 6 0), (10, eN e)]
def lvH (F : CF) (C : BookV) (e : Int) (t : Tid) (amt : Int) (st : List Int) : Heap := balH F C ++ [((1, 6), .box none (repS e t amt (.raw 1 7))), ((1, 7), stC st)]
theorem st_nth' {l : List Int} {j : Nat} (h : j < l.length) : ∀ (ε : Env) (q : Nat) (v : SV), ([.val (.int .u8 (l.getD j 0))] : List SV)[q]? = some v → (l.map (Value.int .u8))[j * 1 + q]? = some (v.den ε) := by
  intro ε q v hv
  cases q with
  | zero =>
    cases hv
    rw [Nat.mul_one, Nat.add_zero, List.getElem?_map, getD_some h 0]; rfl
  | succ q => cases hv
/-- what is told -/
theorem leaves_told (F : CF) {a b : Option Addr} {n cap m cap2 i : Nat} (hi : i ≤ 1000) {eb : Env} {R : List Chunk} {J : Act → World → Prop} {C : BookV} {e : Int} {t : Tid} {amt : Int} {st : List Int} (ht : e = 0 → Told ⟨e, t, amt, st, C⟩)
    (hJ : ∀ ε a' w, Rel (ntOf Tryz.prog LeavesF17) 1 eb R ⟨balSl a n cap b m cap2 (i + 1), balH F C, 2⟩ ε a' w → J a' w) :
    Go Tryz.prog LeavesF17 (.val (.bool true)) ([((0, 9), .fam F)] ++ []) eb R .nrm (rgK Tryz.prog LeavesF17 27 [J]) (lvSl a n cap b m cap2 i e) (lvH F C e t amt st) := by
  have z9 : IntKind.i64.wrap ((i : Int) + 1) = ((i + 1 : Nat) : Int) := by rw [wr_i64 (by omega)]; omega
  rcases Bool.eq_false_or_eq_true (decide (e = 0)) with e0 | e0
  case inr => exact leaf_round (lpK Tryz.prog LeavesF17 0 []) false 400 [hB 27 1 _ _ e0, hI 8 1 IntKind.i64 _ _ z9] hJ (by kernel_rfl)
  obtain ⟨hst, hne, hamt, htid⟩ := ht (of_decide_eq_true e0)
  have hst : st = statusL C t := hst
  subst hst
  have c1 := status_c C htid
  have c2 := mchk_w (a := amt) hamt
  have hl4 : (statusL C t).length ≤ 4 := by unfold statusL; rw [List.length_map]; exact coupL_len C t
  have hl0 : (statusL C t).length ≠ 0 := fun q => hne (List.length_eq_zero_iff.1 q)
  generalize statusL C t = l at *
  have n1 : (!decide ((l.length : Int) = (l.length : Int))) = false := by simp
  have n2 : decide ((l.length : Int) = 0) = false := decide_eq_false (by omega)
  refine go_loop (X := { k : Nat // k ≤ l.length }) 3 [J] (fun x => (lvSl a n cap b m cap2 i e ++ [(19, .raw 1 8), (20, .val (.int .i64 (x.1 : Int)))], lvH F C e t amt l ++ [((1, 8), stC l)])) (fun x => l.length - x.1) ⟨0, Nat.zero_le _⟩ calNone false 400 [hB 27 1 _ _ e0, hC 28 3 c1, hB 29 5 _ _ n1, hB 29 9 _ _ n2, hC 29 14 c2] calNone_ok (by kernel_rfl) ?_
  rintro ⟨k, hk⟩ J2 hJ2
  by_cases h : k < l.length
  · have z0 : decide ((k : Int) < (l.length : Int)) = true := decide_eq_true (by omega)
    have q1 := load_eltG (P := Tryz.prog) (t := 32) (cs := [.val (.int .u8 (l.getD k 0))]) (n := l.length) (p := 0) (j := 0) (b := k * 1) (E := 32) (size := 1) (u := .val (.int .u8 (l.getD k 0))) (xs := l.map (.int .u8)) (by kernel_rfl) (st_nth' h)
    have n3 : (!decide (l.getD k 0 = l.getD k 0)) = false := by simp
    have z5 : IntKind.i64.wrap ((k : Int) + 1) = ((k + 1 : Nat) : Int) := by rw [wr_i64 (by omega)]; omega
    exact leaf_round (lpK Tryz.prog LeavesF17 3 [J]) false 400 [hB 32 3 _ _ z0, .opt 34 2 (.at_ 0 _ _ _ ⟨rfl, h⟩), hG 34 3 q1, .opt 34 7 (.at_ 0 _ _ _ ⟨rfl, h⟩), hG 34 8 q1, hB 34 9 _ _ n3, hI 33 1 IntKind.i64 _ _ z5] (hJ2 ⟨k + 1, h⟩ (by show _ - (k + 1) < _ - k; omega)) (by kernel_rfl)
  · have z0 : decide ((k : Int) < (l.length : Int)) = false := decide_eq_false (by omega)
    exact leaf_round (lpK Tryz.prog LeavesF17 0 []) false 400 [hB 32 3 _ _ z0, hI 8 1 IntKind.i64 _ _ z9] hJ (by kernel_rfl)
/-- the coupons of a ticket -/
theorem leaves_coup (F : CF) {a b : Option Addr} {n cap m cap2 i : Nat} {eb : Env} {R : List Chunk} {J J2 : Act → World → Prop} {B C : BookV} {e : Int} {t : Tid} {amt : Int} {st : List Int} (eB : ExOk B) {k : Nat} (hk32 : k ≤ 32) {d : DocV} (hk : B.docs[k]? = some d)
    (hs : ∀ i : Int, (lkt B.owns ⟨d.t, i⟩ = none ∧ lkt C.owns ⟨d.t, i⟩ = none) ∨ ∃ o o', lkt B.owns ⟨d.t, i⟩ = some o ∧ lkt C.owns ⟨d.t, i⟩ = some o' ∧ (freeO o = false → o' = o))
    (hJ : ∀ ε a' w, Rel (ntOf Tryz.prog LeavesF17) 1 eb R ⟨lvSl a n cap b m cap2 i e ++ [(8, .ptr 1 5 0), (11, .raw 1 1), (12, .val (.int .i64 ((k + 1 : Nat) : Int)))], lvH F C e t amt st ++ [((1, 5), .fam (bookF B)), ((1, 1), tidR (B.docs.map (·.t)))], 2⟩ ε a' w → J2 a' w) :
    Go Tryz.prog LeavesF17 (.val (.bool true)) ([((0, 9), .fam F)] ++ []) eb R .nrm (rgK Tryz.prog LeavesF17 19 [J, J2]) (lvSl a n cap b m cap2 i e ++ [(8, .ptr 1 5 0), (11, .raw 1 1), (12, .val (.int .i64 (k : Int)))]) (lvH F C e t amt st ++ [((1, 5), .fam (bookF B)), ((1, 1), tidR (B.docs.map (·.t)))]) := by
  have hd := List.mem_of_getElem? hk
  have t0 := tid_docs eB.bk hd
  have hkl : k < (B.docs.map (·.t)).length := by
    rcases Nat.lt_or_ge k (B.docs.map (·.t)).length with h | h
    · exact h
    · rw [List.length_map] at h; rw [List.getElem?_eq_none h] at hk; cases hk
  have q1 := load_eltG (P := Tryz.prog) (t := 25) (cs := tidS d.t) (n := (B.docs.map (·.t)).length) (p := 0) (j := 0) (b := k * 2) (E := 25) (size := 2) (u := .agg (tidS d.t)) (by kernel_rfl) (tid_nth (tids_get hk))
  have z9 : IntKind.i64.wrap ((k : Int) + 1) = ((k + 1 : Nat) : Int) := by rw [wr_i64 (by omega)]; omega
  refine go_loop (X := { j : Nat // j ≤ 4 }) 2 [J, J2] (fun x => (lvSl a n cap b m cap2 i e ++ [(8, .ptr 1 5 0), (11, .raw 1 1), (12, .val (.int .i64 (k : Int))), (13, .val (.int .i64 (x.1 : Int)))], lvH F C e t amt st ++ [((1, 5), .fam (bookF B)), ((1, 1), tidR (B.docs.map (·.t)))])) (fun x => 4 - x.1) ⟨0, Nat.zero_le _⟩ calNone false 400 [] calNone_ok (by kernel_rfl) ?_
  rintro ⟨j, hj⟩ J3 hJ3
  by_cases h : j < 4
  · have z0 : decide ((j : Int) < 4) = true := decide_eq_true (by omega)
    have z1 : IntKind.u8.wrap (j : Int) = (j : Int) := wr_u8 (by omega)
    have c1 := own_c B (k := ⟨d.t, (j : Int)⟩) (kidOk_at t0 (by omega) (by omega))
    have c2 := own_c C (k := ⟨d.t, (j : Int)⟩) (kidOk_at t0 (by omega) (by omega))
    have z2 : IntKind.i64.wrap ((j : Int) + 1) = ((j + 1 : Nat) : Int) := by rw [wr_i64 (by omega)]; omega
    have hJ' := hJ3 ⟨j + 1, h⟩ (by show _ - (j + 1) < _ - j; omega)
    rcases hs (j : Int) with ⟨h1, h2⟩ | ⟨o, o', h1, h2, h3⟩
    · rw [h1] at c1
      rw [h2] at c2
      clear h1 h2
      exact leaf_round (lpK Tryz.prog LeavesF17 2 [J, J2]) false 400 [hB 20 1 _ _ z0, .opt 22 2 (.at_ 0 _ _ _ ⟨rfl, hkl⟩), hG 22 3 q1, hI 22 5 IntKind.u8 _ _ z1, hC 23 2 c1, hC 24 2 c2, hI 21 1 IntKind.i64 _ _ z2] hJ' (by kernel_rfl)
    · rw [h1] at c1
      rw [h2] at c2
      clear h1 h2
      rcases Bool.eq_false_or_eq_true o.away with ha | ha
      · have h4 := h3 (by unfold freeO; rw [ha]; rfl)
        subst h4
        have e1 : (!ownEq o' o') = false := by rw [(ownEq_iff _ _).2 rfl]; rfl
        unfold ownEq cpnEq legEq at e1
        exact leaf_round (lpK Tryz.prog LeavesF17 2 [J, J2]) false 400 [hB 20 1 _ _ z0, .opt 22 2 (.at_ 0 _ _ _ ⟨rfl, hkl⟩), hG 22 3 q1, hI 22 5 IntKind.u8 _ _ z1, hC 23 2 c1, hC 24 2 c2, hB 25 8 _ _ ha, hB 25 19 _ _ e1, hI 21 1 IntKind.i64 _ _ z2] hJ' (by kernel_rfl)
      rcases Bool.eq_false_or_eq_true (!decide (o.k.s = 1)) with hs1 | hs1
      · have h4 := h3 (by unfold freeO; rw [Bool.not_eq_true'] at hs1; rw [hs1, Bool.and_false])
        subst h4
        have e1 : (!ownEq o' o') = false := by rw [(ownEq_iff _ _).2 rfl]; rfl
        unfold ownEq cpnEq legEq at e1
        exact leaf_round (lpK Tryz.prog LeavesF17 2 [J, J2]) false 400 [hB 20 1 _ _ z0, .opt 22 2 (.at_ 0 _ _ _ ⟨rfl, hkl⟩), hG 22 3 q1, hI 22 5 IntKind.u8 _ _ z1, hC 23 2 c1, hC 24 2 c2, hB 25 8 _ _ ha, hB 25 13 _ _ hs1, hB 25 19 _ _ e1, hI 21 1 IntKind.i64 _ _ z2] hJ' (by kernel_rfl)
      · exact leaf_round (lpK Tryz.prog LeavesF17 2 [J, J2]) false 400 [hB 20 1 _ _ z0, .opt 22 2 (.at_ 0 _ _ _ ⟨rfl, hkl⟩), hG 22 3 q1, hI 22 5 IntKind.u8 _ _ z1, hC 23 2 c1, hC 24 2 c2, hB 25 8 _ _ ha, hB 25 13 _ _ hs1, hI 21 1 IntKind.i64 _ _ z2] hJ' (by kernel_rfl)
  · have he : j = 4 := by omega
    subst he
    exact leaf_round (lpK Tryz.prog LeavesF17 1 [J]) false 400 [hI 18 1 IntKind.i64 _ _ z9] hJ (by kernel_rfl)
theorem leaves_act (F : CF) {a b : Option Addr} {cap m cap2 i : Nat} {acts : List Act17} (hRa : ∀ b v, Rd (F b v) a (cellsL act17C acts)) (hl : acts.length ≤ 1000) (hi : i < acts.length) {x : Act17} (hx : acts.getD i act17Z = x) (ha : ActRd F x)
    {eb : Env} {R : List Chunk} {J : Act → World → Prop} {B : BookV} (eB : EL B)
    (hJ : ∀ ε a' w, Rel (ntOf Tryz.prog LeavesF17) 1 eb R ⟨balSl a acts.length cap b m cap2 (i + 1), balH F (doX B x).b, 2⟩ ε a' w → J a' w) :
    Go Tryz.prog LeavesF17 (.val (.bool true)) ([((0, 9), .fam F)] ++ []) eb R .nrm (rgK Tryz.prog LeavesF17 11 [J]) (balSl a acts.length cap b m cap2 i) (balH F B) := by
  refine go_open (X := { u : Unit // (B.owns.map (·.1)).Nodup ∧ (B.helds.map (·.1)).Nodup }) (fun _ => [((1, 0), .fam (bookF B)), ((0, 9), .fam F)]) (fun ε w hM => by
    have hM : Mem (F (ε 0 9).1 (ε 0 9).2 :: bookF B (ε 1 0).1 (ε 1 0).2 :: R) w := hM
    have h1 := hM.front 1 rfl
    exact ⟨⟨(), book_facts h1⟩, h1⟩) (fun _ => by kernel_rfl) ?_
  rintro ⟨-, nd1, nd2⟩
  have c0 := clone_b B eB.ex.cl eB.ex.bk.nodup
  have q3 := idx_openG (P := Tryz.prog) (t := AT17) (e := 100) (size := 8) (j := 9) (k := .i64) (cap := cap) (n := acts.length) Tryz.underlying97 (by kernel_rfl) (acts17_len acts) hRa hi
  have hpos : 0 < (cellsL act17C acts).length := by rw [acts17_len]; omega
  have nth := act17_nth hi
  have q4 := load_openG0 (P := Tryz.prog) (t := 100) (k := i * 8) (j := 9) (u := .agg (act17X (acts.getD i act17Z) (acts.getD i act17Z).d)) (by kernel_rfl) hRa nth hpos
  have c1 := do17_w F eB.ex ha
  obtain ⟨eC, htold⟩ := doX_el eB ha.ok ha.t
  have hown := fun k hk => doX_own eB.ex.bk x (k := k) hk
  have hfail := doX_fail (B := B) (x := x)
  have c2 := tickets_c eB.ex.bk
  have csame := same_c B B eB.ex.ds eB.ex.ds
  rw [sameB_self eB.ex.bk.nodup nd1 nd2] at csame
  rw [hx] at q4
  have lB : (B.docs.map (·.t)).length = B.docs.length := List.length_map _
  have hmB := eB.ex.bk.many
  generalize doX B x = q at *
  obtain ⟨qe, qt, qa, qs, C⟩ := q
  have told : qe = 0 → Told ⟨qe, qt, qa, qs, C⟩ := htold
  have fin := leaves_told F (a := a) (b := b) (n := acts.length) (cap := cap) (m := m) (cap2 := cap2) (i := i) (by omega) (eb := eb) (R := R) (J := J) told hJ
  clear hJ htold
  have n0 : (!decide (qe = qe)) = false := by simp
  have go15 : Go Tryz.prog LeavesF17 (.val (.bool true)) ([((0, 9), .fam F)] ++ []) eb R .nrm (rgK Tryz.prog LeavesF17 15 [J]) (lvSl a acts.length cap b m cap2 i qe ++ [(8, .ptr 1 5 0)]) (lvH F C qe qt qa qs ++ [((1, 5), .fam (bookF B))]) := by
    refine go_loop (X := { k : Nat // k ≤ B.docs.length }) 1 [J] (fun x => (lvSl a acts.length cap b m cap2 i qe ++ [(8, .ptr 1 5 0), (11, .raw 1 1), (12, .val (.int .i64 (x.1 : Int)))], lvH F C qe qt qa qs ++ [((1, 5), .fam (bookF B)), ((1, 1), tidR (B.docs.map (·.t)))])) (fun x => B.docs.length - x.1) ⟨0, Nat.zero_le _⟩ calNone false 400 [hC 15 1 c2] calNone_ok (by kernel_rfl) ?_
    rintro ⟨k, hk⟩ J2 hJ2
    by_cases h : k < B.docs.length
    · have z0 : decide ((k : Int) < ((B.docs.map (·.t)).length : Int)) = true := decide_eq_true (by omega)
      have hd := List.getElem?_eq_getElem h
      have f2 := leaves_coup F (a := a) (b := b) (n := acts.length) (cap := cap) (m := m) (cap2 := cap2) (i := i) (eb := eb) (R := R) (J := J) (C := C) (e := qe) (t := qt) (amt := qa) (st := qs) eB.ex (k := k) (by omega) hd (fun i => hown _ ⟨_, List.mem_of_getElem? hd, rfl⟩) (hJ2 ⟨k + 1, h⟩ (by show _ - (k + 1) < _ - k; omega))
      exact leaf_cut (rgK Tryz.prog LeavesF17 19 [J, J2]) _ _ calNone false 400 [hB 17 3 _ _ z0, .stop 19] calNone_ok (by kernel_rfl) f2
    · have z0 : decide ((k : Int) < ((B.docs.map (·.t)).length : Int)) = false := decide_eq_false (by omega)
      exact leaf_cut (rgK Tryz.prog LeavesF17 27 [J]) _ _ calNone false 400 [hB 17 3 _ _ z0, .stop 27] calNone_ok (by kernel_rfl) fin
  clear fin hown
  rcases Bool.eq_false_or_eq_true (!decide (qe = 0)) with e0 | e0
  · have hf := hfail (by simpa using e0)
    injection hf with _ f1 f2 f3 f4
    have f1 : qt = tid0 := f1
    have f2 : qa = 0 := f2
    have f3 : qs = [] := f3
    have f4 : C = B := f4
    subst f1 f2 f3 f4
    exact leaf_cut (rgK Tryz.prog LeavesF17 15 [J]) _ _ calNone false 400 [hC 11 1 c0, hG 12 3 q3, hG 12 4 q4, hC 12 5 c1, hB 13 3 _ _ n0, hB 13 6 _ _ e0, hC 13 10 csame, .stop 15] calNone_ok (by kernel_rfl) go15
  · exact leaf_cut (rgK Tryz.prog LeavesF17 15 [J]) _ _ calNone false 400 [hC 11 1 c0, hG 12 3 q3, hG 12 4 q4, hC 12 5 c1, hB 13 3 _ _ n0, hB 13 6 _ _ e0, .stop 15] calNone_ok (by kernel_rfl) go15
theorem goneB_el {B : BookV} (h : EL B) (gone : List Kid) (i : Nat) : EL (goneB B gone i) := by
  unfold goneB
  split
  · exact h.hear 0 _
  · exact h
theorem leaves17_law (F : CF) {a b : Option Addr} {cap cap2 : Nat} {acts : List Act17} {gone : List Kid} (hRa : ∀ b v, Rd (F b v) a (cellsL act17C acts)) (hRb : ∀ b' v, Rd (F b' v) b (cellsL kidC gone)) (hk : ∀ x ∈ gone, KidOk x) (hl : acts.length ≤ 9223372036854775807) (hl2 : gone.length ≤ 9223372036854775807)
    (hf : ∀ x ∈ acts, x.s.legs.length ≤ 9223372036854775807 ∧ x.s.taxes.length ≤ 9223372036854775807 ∧ x.s.name.size ≤ 9223372036854775807) (hA : greatM acts = false → ∀ x ∈ acts, ActRd F x) :
    CallOK Tryz.prog LeavesF17 [.val (.slice a acts.length cap), .val (.slice b gone.length cap2)] [((0, 9), .fam F)] [] (.val (.bool true)) [] := by
  have c0 := great17_w F (cap := cap) hRa hl hf
  have c9 := wakes17_w
  rcases Bool.eq_false_or_eq_true (greatM acts) with g | g
  · rw [g] at c0
    exact callOK_run 400 [hC 1 1 c0, hC 2 0 c9] (by kernel_rfl) (by kernel_rfl)
  rw [g] at c0
  have hA := hA g
  have hlen := (greatM_no g).1
  rcases Bool.eq_false_or_eq_true (decide ((100 : Int) < (gone.length : Int))) with g2 | g2
  · exact callOK_run 400 [hC 1 1 c0, hB 1 5 _ _ g2, hC 2 0 c9] (by kernel_rfl) (by kernel_rfl)
  have c1 := new_okC (self := 1) (n := 3) (by decide) (by decide)
  refine callOK_intro (by kernel_rfl) fun eb R => ?_
  refine go_loop (X := { i : Nat // i ≤ acts.length ∧ EL (runE acts gone i) }) 0 [] (fun x => (balSl a acts.length cap b gone.length cap2 x.1, balH F (runE acts gone x.1))) (fun x => acts.length - x.1) ⟨0, Nat.zero_le _, new_el 1 3 (by decide)⟩ calNone false 400 [hC 1 1 c0, hB 1 5 _ _ g2, hC 3 0 c1] calNone_ok (by kernel_rfl) ?_
  rintro ⟨i, hi, eB⟩ J hJ
  by_cases h : i < acts.length
  · have z0 : decide ((i : Int) < (acts.length : Int)) = true := decide_eq_true (by omega)
    have hin : acts.getD i act17Z ∈ acts := List.mem_of_getElem? (getD_some h act17Z)
    have eB' := (doX_el (goneB_el eB gone i) (hA _ hin).ok (hA _ hin).t).1
    have fin := leaves_act F (a := a) (b := b) (cap := cap) (m := gone.length) (cap2 := cap2) (eb := eb) (R := R) (J := J) hRa (by omega) h rfl (hA _ hin) (goneB_el eB gone i) (hJ ⟨i + 1, h, eB'⟩ (by show _ - (i + 1) < _ - i; omega))
    clear hJ
    by_cases hg : i < gone.length
    · have eg : goneB (runE acts gone i) gone i = (hearQ (runE acts gone i) 0 (wantM (gone.getD i kid0))).b := by unfold goneB; rw [if_pos hg]
      rw [eg] at fin
      have z1 : decide ((i : Int) < (gone.length : Int)) = true := decide_eq_true (by omega)
      have hkin : gone.getD i kid0 ∈ gone := List.mem_of_getElem? (getD_some hg kid0)
      have q3 := idx_openG (P := Tryz.prog) (t := 78) (e := 27) (size := 3) (j := 9) (k := .i64) (cap := cap2) (n := gone.length) Tryz.underlying78 (by kernel_rfl) (kidC_len gone) hRb hg
      have q4 := load_openG0 (P := Tryz.prog) (t := 27) (k := i * 3) (j := 9) (u := .agg (kidS (gone.getD i kid0))) (by kernel_rfl) hRb (kid_nth hg) (by rw [kidC_len]; omega)
      have c2 := hear_c (runE acts gone i) (c := 0) (by decide) (wantM (gone.getD i kid0)) ⟨by show (0 : Int) ≤ 1; decide, by show (1 : Int) ≤ 255; decide⟩ (hk _ hkin)
      exact leaf_cut (rgK Tryz.prog LeavesF17 11 [J]) _ _ calNone false 400 [hB 7 3 _ _ z0, hB 9 3 _ _ z1, hG 10 3 q3, hG 10 4 q4, hC 10 6 c2, .stop 11] calNone_ok (by kernel_rfl) fin
    · have eg : goneB (runE acts gone i) gone i = runE acts gone i := by unfold goneB; rw [if_neg hg]
      rw [eg] at fin
      have z1 : decide ((i : Int) < (gone.length : Int)) = false := decide_eq_false (by omega)
      exact leaf_cut (rgK Tryz.prog LeavesF17 11 [J]) _ _ calNone false 400 [hB 7 3 _ _ z0, hB 9 3 _ _ z1, .stop 11] calNone_ok (by kernel_rfl) fin
  · have z0 : decide ((i : Int) < (acts.length : Int)) = false := decide_eq_false (by omega)
    exact leaf_end calNone false 400 [hB 7 3 _ _ z0, hC 36 0 c9] calNone_ok (by kernel_rfl)
theorem leaves17_any (a : Option Addr) (l : List Act17) (c : Nat) (b : Option Addr) (g : List Kid) (c2 : Nat) (w : World) (hr : Row w a (cellsL act17C l)) (hn : a = none → c = 0) (hl : l.length ≤ maxLen) (ok : ∀ x ∈ l, Act17In w x)
    (hr2 : Row w b (cellsL kidC g)) (hn2 : b = none → c2 = 0) (hl2 : g.length ≤ maxLen) (ok2 : ∀ x ∈ g, KidOk x) :
    Calls Tryz.prog LeavesF17 #[.slice a l.length c, .slice b g.length c2] w fun e w' => e = .returned (.bool true) ∧ Below w.heap.size w w' :=
  (leaves17_law (fun _ _ => oldC w) (cap := c) (cap2 := c2) (fun _ _ => rd_old hr) (fun _ _ => rd_old hr2) ok2 (maxLen_le hl) (maxLen_le hl2) (fun x hx => ⟨maxLen_le (ok x hx).ok.nl, maxLen_le (ok x hx).ok.nt, maxLen_le (ok x hx).ok.name⟩)
    (fun hg x hx => actRd_of (ok x hx) (by have := ((greatM_no hg).2 x hx).1; omega) (by have := ((greatM_no hg).2 x hx).2; omega)) (fun _ _ => (0, undef)) [] w (Mem.old w)).mono fun e w' ⟨x, h, hm⟩ => ⟨h, (show Mem (oldC w :: []) w' from hm).below 0 rfl⟩
end Go.Proofs.YtlekbdpdlalhbaaGreat
end
