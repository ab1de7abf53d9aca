/- Ex5, Ex6, BkC1, BkC2, BkC3. -/
import Derived.Test.YtmhbpifhpolghaaGreatMf331612
import Derived.Shelf.SlMaps.Clone
set_option maxRecDepth 100000
set_option linter.unusedVariables false
set_option linter.unusedSimpArgs false
set_option linter.unusedSectionVars false
section
namespace Go.Proofs.YtmhbpifhpolghaaGreat
open Go.RowKit Go.Lib Go.Tk Go.Shelf Go.Vc Go.Sx
theorem lkD_mem {ds : List DocV} {t : Tid} {d : DocV} (h : lkD ds t = some d) : d ∈ ds ∧ d.t = t := ⟨List.mem_of_find?_eq_some h, by simpa using List.find?_some h⟩
theorem lkD_some {ds : List DocV} {t : Tid} (h : t ∈ ds.map (·.t)) : ∃ d, lkD ds t = some d := by
  obtain ⟨d, hd, rfl⟩ := List.mem_map.1 h
  cases e : lkD ds d.t with
  | some x => exact ⟨x, rfl⟩
  | none => have := List.find?_eq_none.1 e d hd; simp at this
theorem putD_t (ds : List DocV) (d : DocV) : (putD ds d).map (·.t) = ds.map (·.t) := by
  unfold putD
  rw [List.map_map]
  refine List.map_congr_left fun x _ => ?_
  show (if x.t = d.t then d else x).t = x.t
  by_cases e : x.t = d.t
  · rw [if_pos e, e]
  · rw [if_neg e]
theorem BookOk.nodup {B : BookV} (h : BookOk B) : (B.docs.map (·.t)).Nodup := by
  unfold List.Nodup
  rw [List.pairwise_iff_getElem]
  intro i j hi hj hij e
  rw [List.length_map] at hi hj
  rw [List.getElem_map, List.getElem_map] at e
  have h1 := h.docs i _ (List.getElem?_eq_getElem hi)
  have h2 := h.docs j _ (List.getElem?_eq_getElem hj)
  rw [h1, h2] at e
  have := congrArg Tid.r e
  simp only at this
  omega
structure ExOk (B : BookV) : Prop where
  bk : BookOk B
  sal : ∀ d ∈ B.docs, SaleOk d.s
  sm : ∀ d ∈ B.docs, DocSmall d
  own : ∀ k o, lkt B.owns k = some o → OwnOk o
theorem ExOk.coup {B : BookV} (h : ExOk B) (t : Tid) : ∀ o ∈ coupL B t, OwnOk o := by
  rcases coupL_cases B t with ⟨e, h0⟩ | ⟨a, e, h0, h1⟩ | ⟨a, b, e, h0, h1, h2⟩ | ⟨a, b, c, e, h0, h1, h2, h3⟩ | ⟨a, b, c, x, e, h0, h1, h2, h3⟩ <;> rw [e] <;> intro o ho <;> simp only [List.mem_cons, List.not_mem_nil, or_false] at ho
  · subst ho; exact h.own _ _ h0
  · rcases ho with rfl | rfl
    · exact h.own _ _ h0
    · exact h.own _ _ h1
  · rcases ho with rfl | rfl | rfl
    · exact h.own _ _ h0
    · exact h.own _ _ h1
    · exact h.own _ _ h2
  · rcases ho with rfl | rfl | rfl | rfl
    · exact h.own _ _ h0
    · exact h.own _ _ h1
    · exact h.own _ _ h2
    · exact h.own _ _ h3
theorem issE_check {B : BookV} {s : SaleV} (h : B.issE s = 0) : checkE s B.n = 0 := by
  unfold BookV.issE at h
  cases g : decide ((32 : Int) ≤ (B.docs.length : Int)) with
  | true => rw [g] at h; cases h
  | false =>
    rw [g] at h
    have h : makeE B.self ((B.docs.length : Int) + 1) s B.n = 0 := h
    unfold makeE at h
    split at h
    · cases h
    · exact h
theorem issE_many {B : BookV} {s : SaleV} (h : B.issE s = 0) : B.docs.length < 32 := by
  unfold BookV.issE at h
  cases g : decide ((32 : Int) ≤ (B.docs.length : Int)) with
  | true => rw [g] at h; cases h
  | false => have := of_decide_eq_false g; omega
theorem BookOk.issued {B : BookV} (hb : BookOk B) {s : SaleV} (h : B.issE s = 0) : BookOk (B.issued s) := by
  have hm := issE_many h
  refine ⟨hb.self, hb.n, fun i d hd => ?_, ?_⟩
  · have hd : (B.docs ++ [docMade B.nextT s])[i]? = some d := hd
    rw [List.getElem?_append] at hd
    by_cases hi : i < B.docs.length
    · rw [if_pos hi] at hd; exact hb.docs i d hd
    · rw [if_neg hi] at hd
      have hz : i - B.docs.length = 0 := by
        have := (List.getElem?_eq_some_iff.1 hd).1
        simp at this; omega
      rw [hz] at hd
      cases hd
      show B.nextT = _
      unfold BookV.nextT
      rw [show i = B.docs.length by omega]; rfl
  · show (B.docs ++ [docMade B.nextT s]).length ≤ 32
    rw [List.length_append]; simp; omega
theorem turn1_docs (B : BookV) (k : Kid) (o : OwnV) (s : Int) : (turn1 B k o s).docs = B.docs := by
  unfold turn1
  cases freeO o
  · rfl
  · exact setO_docs B k _
theorem turnL_docs (s : Int) (t : Tid) : ∀ (l : List OwnV) (B : BookV) (i : Int), (turnL s t B i l).docs = B.docs
  | [], B, i => rfl
  | o :: l, B, i => by
    show (turnL s t (turn1 B ⟨t, i⟩ o s) (i + 1) l).docs = _
    rw [turnL_docs s t l, turn1_docs]
theorem turnB_docs (B : BookV) (t : Tid) (s : Int) : (turnB B t s).docs = B.docs := turnL_docs s t _ B 0
end Go.Proofs.YtmhbpifhpolghaaGreat
end
section
namespace Go.Proofs.YtmhbpifhpolghaaGreat
open Go.RowKit Go.Lib Go.Tk Go.Shelf Go.Vc Go.Sx Go.Maps
def CloneOF : Nat := 36
def CloneHF : Nat := 37
set_option maxHeartbeats 2000000 in
theorem cloneO_any (b : Nat) (es : Array MapEntry) (clock : Nat) (w : World) (hb : w.heap[b]? = some (.map es clock)) :
    Calls Tryz.prog CloneOF #[.map (some b)] w fun e w' => e = .returned (.map (some w.heap.size)) ∧ w' = w.alloc (.map es clock) := by
  unfold CloneOF
  have hq := fun w => run_eql_map_nil_sl (P := Tryz.prog) w 107 _ _ (some b) Tryz.underlying107
  go_enter Tryz.func36, Tryz.ntmps36
  go_wp2
  rw [run_callFunc_extern Tryz.func76 (by kernel_rfl) (by kernel_rfl) (by kernel_rfl) (e := Extern.MapsClone.clone) (by kernel_rfl), run_maps_clone_sl w 107 hb]
  simp only [Result.andThen]
  rw [Oper.upon_value]
  go_wp2
  rw [run_typeAssert_map_sl _ 107 _ _ _ _ Tryz.underlying107]
  simp only [Result.andThen]
  rw [Oper.upon_value]
  go_wp2
  go_ret
  exact ⟨rfl, rfl⟩
set_option maxHeartbeats 2000000 in
theorem cloneH_any (b : Nat) (es : Array MapEntry) (clock : Nat) (w : World) (hb : w.heap[b]? = some (.map es clock)) :
    Calls Tryz.prog CloneHF #[.map (some b)] w fun e w' => e = .returned (.map (some w.heap.size)) ∧ w' = w.alloc (.map es clock) := by
  unfold CloneHF
  have hq := fun w => run_eql_map_nil_sl (P := Tryz.prog) w 108 _ _ (some b) Tryz.underlying108
  go_enter Tryz.func37, Tryz.ntmps37
  go_wp2
  rw [run_callFunc_extern Tryz.func76 (by kernel_rfl) (by kernel_rfl) (by kernel_rfl) (e := Extern.MapsClone.clone) (by kernel_rfl), run_maps_clone_sl w 108 hb]
  simp only [Result.andThen]
  rw [Oper.upon_value]
  go_wp2
  rw [run_typeAssert_map_sl _ 108 _ _ _ _ Tryz.underlying108]
  simp only [Result.andThen]
  rw [Oper.upon_value]
  go_wp2
  go_ret
  exact ⟨rfl, rfl⟩
def rowsC (L : List (DocV × DocA)) : Chunk where
  at_ S w := ∀ p ∈ L, DocIn S w p
  stable hk hi h := fun p hp => (h p hp).stays hk hi
theorem docs_split {L : List (DocV × DocA)} {b : Nat} {v : Value} {R : List Chunk} {w : World} (h : Mem (docsF L b v :: R) w) : Mem (mapC tidK b (ents docW (docKV L)) :: rowsC L :: R) w := by
  have h1 : Mem (allC [mapC tidK b (ents docW (docKV L)), rowsC L] :: R) w := h.weaken fun S hS => by
    obtain ⟨⟨hb, hm⟩, Sd, g1, g2, -⟩ := hS
    refine ⟨fun i k => match i with | 0 => k = b | _ => Sd k, fun i k hi hk => ?_, fun i c hc => ?_, fun i j k hi hj hij hki hkj => ?_⟩
    · match i, hk with
      | 0, hk => exact hk ▸ hb
      | i + 1, hk => exact (g1 k hk).1
    · match i, hc with
      | 0, hc => cases hc; exact ⟨rfl, hm⟩
      | 1, hc => cases hc; exact g2
      | i + 2, hc => cases hc
    · match i, j, hij, hki, hkj with
      | 0, 0, hij, _, _ => exact hij rfl
      | 0, j + 1, _, hki, hkj => exact (g1 k hkj).2 hki
      | i + 1, 0, _, hki, hkj => exact (g1 k hki).2 hkj
      | i + 1, j + 1, hij, _, _ => simp at hi hj; exact hij (by omega)
  exact h1.all
theorem docs_shut {L : List (DocV × DocA)} {b : Nat} {v : Value} {R : List Chunk} {w : World} (h : Mem (mapC tidK b (ents docW (docKV L)) :: rowsC L :: R) w) : Mem (docsF L b v :: R) w := by
  refine mem_join (l := [mapC tidK b (ents docW (docKV L)), rowsC L]) h fun S hS => ?_
  obtain ⟨F, g1, g2, g3⟩ := hS
  have m0 := g2 0 _ rfl
  have m1 := g2 1 _ rfl
  refine ⟨⟨g1 0 b (by simp) m0.1, m0.2⟩, F 1, fun k hk => ⟨g1 1 k (by simp) hk, fun e => ?_⟩, m1, fun p hp => by cases hp⟩
  subst e
  exact g3 1 0 k (by simp) (by simp) (by decide) hk m0.1
theorem copied_rows (L : List (DocV × DocA)) (p : DocV × DocA) (hp : p ∈ L) (sm : DocSmall p.1) : CallOK Tryz.prog CopiedF [.agg (docSA p.1 p.2)] [((0, 5), .fam fun _ _ => rowsC L)] [] (.agg (docS p.1 (.raw 1 0) (.raw 1 1) (.raw 1 2))) (docR p.1) := by
  refine CallOK.mv 5 ?_ rfl rfl rfl
  intro ε R w hM
  have hM' : Mem (rowsC L :: R) w := hM
  have ok : SlOk p.2.la p.1.s.legs.length p.2.lc ∧ SlOk p.2.ta p.1.s.taxes.length p.2.tc ∧ SlOk p.2.va p.1.vals.length p.2.vc := hM'.of 0 rfl fun S hS => ⟨(hS p hp).okl, (hS p hp).okt, (hS p hp).okv⟩
  exact copied_w (fun _ _ => rowsC L) (fun b v S w h => (h p hp).legs) (fun b v S w h => (h p hp).taxes) (fun b v S w h => (h p hp).vals) ok.1 ok.2.1 ok.2.2 sm ε R w hM
theorem putt_new {κ α : Type} [DecidableEq κ] : ∀ (l : List (κ × α)) (k : κ) (a : α), (∀ p ∈ l, p.1 ≠ k) → putt l k a = l ++ [(k, a)]
  | [], _, _, _ => rfl
  | p :: l, k, a, h => by
    show (if _ then _ else _) = _
    rw [if_neg (h p List.mem_cons_self), putt_new l k a fun q hq => h q (List.mem_cons_of_mem _ hq)]
    rfl
theorem upd_docsN (ds : List DocV) (d : DocV) (ht : TidOk d.t) (hn : ∀ x ∈ ds, x.t ≠ d.t) :
    OpG Tryz.prog (isUp DT) upXYZ [.map 0 0, .agg (tidS d.t), .agg (docS d (.raw 0 1) (.raw 0 2) (.raw 0 3))] [] [((0, 0), .fam (docsX ds)), ((0, 1), legR d.s.legs.length d.s.legs), ((0, 2), taxR d.s.taxes.length d.s.taxes), ((0, 3), i64R d.vals.length d.vals)] (.val undef) [((0, 0), .fam (docsX (ds ++ [d])))] := by
  intro o ho
  refine ⟨(upd_docs [] [(d, docA0)] (d, docA0) ht (List.Perm.refl _) o ho).1, fun ε ρ R w hx hM => ?_⟩
  have hM : Mem (docsX ds (ε 0 0).1 (ε 0 0).2 :: rowC 48 3 (asSl (ε 0 1).2) d.s.legs.length (cellsL encLeg d.s.legs) :: rowC 172 2 (asSl (ε 0 2).2) d.s.taxes.length (cellsL encTax d.s.taxes) :: rowC 2 1 (asSl (ε 0 3).2) d.vals.length (d.vals.map (.int .i64)) :: R) w := hM
  obtain ⟨la, lc, hvl, okl⟩ := row_sl (hM.owns 1 rfl)
  obtain ⟨ta, tc, hvt, okt⟩ := row_sl (hM.owns 2 rfl)
  obtain ⟨va, vc, hvv, okv⟩ := row_sl (hM.owns 3 rfl)
  rw [hvl, hvt, hvv] at hM
  obtain ⟨⟨L, hL⟩, hM⟩ := Mem.ex hM
  have hM2 := docs_join (p := (d, ⟨la, lc, ta, tc, va, vc⟩)) rfl rfl rfl hM
  have hp : (putt (docKV L) d.t (d, (⟨la, lc, ta, tc, va, vc⟩ : DocA))).Perm (docKV (L ++ [(d, ⟨la, lc, ta, tc, va, vc⟩)])) := by
    rw [putt_new _ _ _ fun q hq => by
      obtain ⟨y, hy, rfl⟩ := List.mem_map.1 hq
      exact hn y.1 (by rw [← hL]; exact List.mem_map_of_mem hy)]
    unfold docKV
    rw [List.map_append]
    exact List.Perm.refl _
  have hA : SV.dens ε [.map 0 0, .agg (tidS d.t), .agg (docS d (.raw 0 1) (.raw 0 2) (.raw 0 3))] = SV.dens ε [.map 0 0, .agg (tidS d.t), .agg (docSA d ⟨la, lc, ta, tc, va, vc⟩)] := by
    simp only [SV.dens, SV.den, docS, docSA, hvl, hvt, hvv]
  rw [hA] at hx
  have := (upd_docs L (L ++ [(d, ⟨la, lc, ta, tc, va, vc⟩)]) (d, ⟨la, lc, ta, tc, va, vc⟩) ht hp o ho).2 ε ρ R w hx hM2
  exact res_mono (fun u w' ⟨x, h1, h2⟩ => ⟨x, h1, by
    have h2 : Mem (docsF (L ++ [(d, ⟨la, lc, ta, tc, va, vc⟩)]) (eset ε 1 x 0 0).1 (eset ε 1 x 0 0).2 :: R) w' := h2
    have h3 : Mem (docsX (ds ++ [d]) (eset ε 1 x 0 0).1 (eset ε 1 x 0 0).2 :: R) w' := Mem.in_ex ⟨L ++ [(d, ⟨la, lc, ta, tc, va, vc⟩)], by rw [List.map_append, hL]; rfl⟩ h2
    exact h3⟩) this
end Go.Proofs.YtmhbpifhpolghaaGreat
end
