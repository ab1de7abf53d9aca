/- Ce12, Ce13, Ce14, Ce15, Ce16, Ex5, Ex6, Ex7, Ce17. -/
import Derived.Test.YtdnaegleifhmgaaGreatMe5ab548
import Derived.Test.YtdnaegleifhmgaaGreatM7ce3b18
import Derived.Test.YtdnaegleifhmgaaGreatM575c084
set_option maxRecDepth 100000
set_option linter.unusedVariables false
set_option linter.unusedSimpArgs false
set_option linter.unusedSectionVars false
section
namespace Go.Sx
open Go.RowKit Go.Lib Go.Tk Go.Shelf Go.Vc
theorem go_fact {P : Program} {f : Nat} {ret : SV} {rp : Heap} {eb : Env} {R : List Chunk} {e : Ex} {K : List It} {sl : Slots} {H : Heap} (n : Nm) (m : Nat) (key : ∀ ε R w, Mem (hden ε H ++ R) w → ∃ a c, asSl (ε n.1 n.2).2 = .slice a m c)
    (h : ∀ a c, Go P f ret rp eb R e K (knSl n (.slice a m c) sl) (knH n (.slice a m c) H)) : Go P f ret rp eb R e K sl H := by
  intro ε a w hr
  have hm : Mem (hden ε H ++ R) w := hr.mem
  obtain ⟨a', c, hv⟩ := key ε R w hm
  refine h a' c ε a w ⟨hr.size, hr.defers, ?_, ?_, ?_, ?_, hr.e0, hr.pos⟩
  · intro d u hu
    obtain ⟨x, hx, rfl⟩ := lkS_kn hu
    have := hr.slots d x hx
    exact ⟨by rw [SV.kn_den hv]; exact this.1, SV.kn_ok _ this.2⟩
  · have e1 : hden ε (knH n (.slice a' m c) H) = hden ε H := by
      unfold hden knH
      rw [List.map_map]
      exact List.map_congr_left fun x _ => SC.kn_den hv x.1 x.2
    show Mem (hden ε (knH n (.slice a' m c) H) ++ R) w
    rw [e1]; exact hm
  · have e1 : names (knH n (.slice a' m c) H) = names H := by unfold names knH; rw [List.map_map]; rfl
    show (names (knH n (.slice a' m c) H)).Nodup
    rw [e1]; exact hr.nd
  · have := hr.sc
    unfold hok knH at *
    simp only [List.all_map, List.all_eq_true, Bool.and_eq_true, Function.comp] at this ⊢
    exact fun x hx => ⟨(this x hx).1, SC.kn_ok _ (this x hx).2⟩
end Go.Sx
namespace Go.Proofs.YtdnaegleifhmgaaGreat
open Go.RowKit Go.Lib Go.Tk Go.Shelf Go.Vc Go.Sx
theorem docsE_open {L : List (DocV × DocA)} {d : DocV} {b : Nat} {v : Value} {vs : List Value} {R : List Chunk} {w : World} (h : Mem (docsE L d b v vs :: R) w) :
    ∃ a : DocA, vs = [.slice a.la d.s.legs.length a.lc, .slice a.ta d.s.taxes.length a.tc, .slice a.va d.vals.length a.vc] ∧ Mem (docsF (L ++ [(d, a)]) b v :: R) w := by
  unfold docsE at h
  split at h
  · rename_i la n1 lc ta n2 tc va n3 vc
    have hp : n1 = d.s.legs.length ∧ n2 = d.s.taxes.length ∧ n3 = d.vals.length := h.of 0 rfl (φ := _) fun S hS => hS.2
    obtain ⟨rfl, rfl, rfl⟩ := hp
    exact ⟨⟨la, lc, ta, tc, va, vc⟩, rfl, h.weaken fun S hS => hS.1⟩
  · exact absurd (h.of 0 rfl (φ := False) fun S hS => hS) id
end Go.Proofs.YtdnaegleifhmgaaGreat
end
section
namespace Go.Proofs.YtdnaegleifhmgaaGreat
open Go.RowKit Go.Lib Go.Tk Go.Shelf Go.Vc Go.Sx
def DoingsF : Nat := 32
def SellF : Nat := 53
def CexchF : Nat := 56
def doE (k : Int) (f : Nat) : Value × SV × Nat := (.int .u8 k, .fn (.func f) [] [], 0)
def doingsL : List (Value × SV × Nat) := [doE 1 SellF, doE 3 CevoidF, doE 4 CerefundF, doE 5 CexchF, doE 7 CegiveF, doE 9 CeuseF, doE 10 CeuseF, doE 11 CeuseF, doE 12 CeuseF, doE 2 CelookF, doE 6 CesayF, doE 8 CesayF, doE 13 CesayF]
theorem doings_w : CallOK Tryz.prog DoingsF [] [] [] (.map 1 0) [((1, 0), .obj doingsL.reverse 0)] := callOK_run 400 [] (by kernel_rfl) (by kernel_rfl)
end Go.Proofs.YtdnaegleifhmgaaGreat
end
section
namespace Go.Proofs.YtdnaegleifhmgaaGreat
open Go.RowKit Go.Lib Go.Tk Go.Shelf Go.Vc Go.Sx
theorem lnew_no {n : Int} (h : ledE n ≠ 0) : CallOK Tryz.prog LNewF [.val (.int .i64 n)] [] [] (.tup [.val (.pointer none), eN 1]) [] := by
  rcases Bool.eq_false_or_eq_true (decide (n < 2)) with e1 | e1
  · exact callOK_run 400 [hB 1 1 _ _ e1] (by kernel_rfl) (by kernel_rfl)
  rcases Bool.eq_false_or_eq_true (decide (8 < n)) with e2 | e2
  · exact callOK_run 400 [hB 1 1 _ _ e1, hB 1 4 _ _ e2] (by kernel_rfl) (by kernel_rfl)
  · exact absurd (by unfold ledE; rw [e1, e2]; rfl) h
def lnewS (n : Int) : Heap := [((1, 0), .box none [.val (.int .i64 n), .map 1 1, .map 1 2]), ((1, 1), .obj [] 0), ((1, 2), .obj [] 0)]
theorem lnew_shut (n : Int) (ε : Env) (R : List Chunk) (w : World) (h : Mem (hden ε (lnewS n) ++ R) w) : Mem (ledF (ledNew n) (ε 1 0).1 (ε 1 0).2 :: R) w := by
  refine (led_packs (ledNew n)).shuts 1 ε R w ?_
  have h0 : Mem (boxE none (ε 1 0).1 #[.int .i64 n, .map (some (ε 1 1).1), .map (some (ε 1 2).1)] :: objM (ε 1 1).1 [] :: objM (ε 1 2).1 [] :: R) w := h
  have h1 := (h0.front 1 rfl).weaken (c' := docsX [] (ε 1 1).1 (ε 1 1).2) (fun S hS => obj_docs hS)
  have h2 := (h1.front 2 rfl).weaken (c' := mapT kidK slipW [] (ε 1 2).1 (ε 1 2).2) (fun S hS => obj_map hS)
  exact ((h2.front 0 rfl).front 1 rfl).front 2 rfl
theorem lnew_ok {n : Int} (h : ledE n = 0) : CallOK Tryz.prog LNewF [.val (.int .i64 n)] [] [] (.tup [.ptr 1 0 0, eN 0]) [((1, 0), .fam (ledF (ledNew n)))] := by
  have h0 : (decide (n < 2) || decide (8 < n)) = false := by
    cases hb : (decide (n < 2) || decide (8 < n)) with
    | false => rfl
    | true => unfold ledE at h; rw [hb] at h; cases h
  simp only [Bool.or_eq_false_iff] at h0
  obtain ⟨e1, e2⟩ := h0
  have key : CallOK Tryz.prog LNewF [.val (.int .i64 n)] [] [] (.tup [.ptr 1 0 0, eN 0]) (lnewS n) := callOK_run 400 [hB 1 1 _ _ e1, hB 1 4 _ _ e2] (by kernel_rfl) (by kernel_rfl)
  exact key.post_mono (post' := [((1, 0), .fam (ledF (ledNew n)))]) (lnew_shut n)
end Go.Proofs.YtdnaegleifhmgaaGreat
end
section
namespace Go.Proofs.YtdnaegleifhmgaaGreat
open Go.RowKit Go.Lib Go.Tk Go.Shelf Go.Vc Go.Sx
structure CmtV where
  car : Int
  kind : Int
  cmd : CmdV
  src : Int
  num : Int
  m : MsV
def cmtS (c : CmtV) (A : SaleA) : List SV := [.val (.int .u8 c.car), .val (.int .u8 c.kind)] ++ cmdS c.cmd A ++ [.val (.int .u8 c.src), .val (.int .u64 c.num)] ++ msS c.m
def StepLF : Nat := 12
def Step1F : Nat := 30
def PlacesF : Nat := 11
def DocsLF : Nat := 21
theorem cfailed_w (e : Int) : CallOK Tryz.prog Step1F [eN e] [] [] (.tup [.agg (repS e tid0 0 nilS), eN e]) [] := callOK_run 400 [] (by kernel_rfl) (by kernel_rfl)
end Go.Proofs.YtdnaegleifhmgaaGreat
end
section
namespace Go.Proofs.YtdnaegleifhmgaaGreat
open Go.RowKit Go.Lib Go.Tk Go.Shelf Go.Vc Go.Sx
def issB (B : LedV) (t : Tid) (s : SaleV) : LedV := { B with docs := B.docs ++ [docMade t s], slips := issS t s (shareV s.fare (wsOf s)) B.slips (shareV s.fare (wsOf s)).length }
def ceSell (B : LedV) (k : Nat) (who : Int) (s : SaleV) : CR :=
  bif decide (issLE k B.n who s = 0) then toldC (issB B ⟨who, (k : Int) + 1⟩ s) ⟨who, (k : Int) + 1⟩ (cpriceI s) (shareV s.fare (wsOf s)).length else failC (issLE k B.n who s) B
theorem cesell_no (F : CF) {L : List (DocV × DocA)} {B : LedV} (hL : L.map (·.1) = B.docs) {who : Int} (hc : 0 ≤ who ∧ who ≤ 255) {k : Nat} (hk : Serials L who k) {c : CmdV} {A : SaleA} (ok : SaleOk c.s) (hl : ∀ b v, Rd (F b v) A.la (cellsL encLeg c.s.legs)) (ht : ∀ b v, Rd (F b v) A.ta (cellsL encTax c.s.taxes)) (h1 : SlOk A.la c.s.legs.length A.lc) (h2 : SlOk A.ta c.s.taxes.length A.tc) (hm : issLE k B.n who c.s ≠ 0) :
    CallOK Tryz.prog SellF [.ptr 0 0 0, .val (.int .u8 who), .agg (cmdS c A)] [((0, 9), .fam F)] (ledH (docsF L) B) (crV (failC (issLE k B.n who c.s) B)) (crP (failC (issLE k B.n who c.s) B)) := by
  have c1 := ceissue_no F (B := B) hc hk ok hl ht h1 h2 hm
  have g2 : (!decide (issLE k B.n who c.s = 0)) = true := by simpa using hm
  have key : CallOK Tryz.prog SellF [.ptr 0 0 0, .val (.int .u8 who), .agg (cmdS c A)] [((0, 9), .fam F)] (ledH (docsF L) B) (crV (failC (issLE k B.n who c.s) B)) (ledH (docsF L) B ++ [((1, 0), stVL [])]) := callOK_run 400 [hC 1 4 c1, hB 2 1 _ _ g2] (by kernel_rfl) (by kernel_rfl)
  exact led_known (B' := (failC (issLE k B.n who c.s) B).b) key hL
end Go.Proofs.YtdnaegleifhmgaaGreat
end
section
namespace Go.Proofs.YtdnaegleifhmgaaGreat
open Go.RowKit Go.Lib Go.Tk Go.Shelf Go.Vc Go.Sx
theorem lkD_mem {ds : List DocV} {t : Tid} {d : DocV} (h : lkD ds t = some d) : d ∈ ds ∧ d.t = t := ⟨List.mem_of_find?_eq_some h, by simpa using List.find?_some h⟩
theorem lkD_some {ds : List DocV} {t : Tid} (h : t ∈ ds.map (·.t)) : ∃ d, lkD ds t = some d := by
  obtain ⟨d, hd, rfl⟩ := List.mem_map.1 h
  cases e : lkD ds d.t with
  | some x => exact ⟨x, rfl⟩
  | none => have := List.find?_eq_none.1 e d hd; simp at this
theorem putD_t (ds : List DocV) (d : DocV) : (putD ds d).map (·.t) = ds.map (·.t) := by
  unfold putD
  rw [List.map_map]
  refine List.map_congr_left fun x _ => ?_
  show (if x.t = d.t then d else x).t = x.t
  by_cases e : x.t = d.t
  · rw [if_pos e, e]
  · rw [if_neg e]
theorem BookOk.nodup {B : BookV} (h : BookOk B) : (B.docs.map (·.t)).Nodup := by
  unfold List.Nodup
  rw [List.pairwise_iff_getElem]
  intro i j hi hj hij e
  rw [List.length_map] at hi hj
  rw [List.getElem_map, List.getElem_map] at e
  have h1 := h.docs i _ (List.getElem?_eq_getElem hi)
  have h2 := h.docs j _ (List.getElem?_eq_getElem hj)
  rw [h1, h2] at e
  have := congrArg Tid.r e
  simp only at this
  omega
structure ExOk (B : BookV) : Prop where
  bk : BookOk B
  sal : ∀ d ∈ B.docs, SaleOk d.s
  sm : ∀ d ∈ B.docs, DocSmall d
  own : ∀ k o, lkt B.owns k = some o → OwnOk o
theorem ExOk.coup {B : BookV} (h : ExOk B) (t : Tid) : ∀ o ∈ coupL B t, OwnOk o := by
  rcases coupL_cases B t with ⟨e, h0⟩ | ⟨a, e, h0, h1⟩ | ⟨a, b, e, h0, h1, h2⟩ | ⟨a, b, c, e, h0, h1, h2, h3⟩ | ⟨a, b, c, x, e, h0, h1, h2, h3⟩ <;> rw [e] <;> intro o ho <;> simp only [List.mem_cons, List.not_mem_nil, or_false] at ho
  · subst ho; exact h.own _ _ h0
  · rcases ho with rfl | rfl
    · exact h.own _ _ h0
    · exact h.own _ _ h1
  · rcases ho with rfl | rfl | rfl
    · exact h.own _ _ h0
    · exact h.own _ _ h1
    · exact h.own _ _ h2
  · rcases ho with rfl | rfl | rfl | rfl
    · exact h.own _ _ h0
    · exact h.own _ _ h1
    · exact h.own _ _ h2
    · exact h.own _ _ h3
theorem issE_check {B : BookV} {s : SaleV} (h : B.issE s = 0) : checkE s B.n = 0 := by
  unfold BookV.issE at h
  cases g : decide ((32 : Int) ≤ (B.docs.length : Int)) with
  | true => rw [g] at h; cases h
  | false =>
    rw [g] at h
    have h : makeE B.self ((B.docs.length : Int) + 1) s B.n = 0 := h
    unfold makeE at h
    split at h
    · cases h
    · exact h
end Go.Proofs.YtdnaegleifhmgaaGreat
end
section
namespace Go.Proofs.YtdnaegleifhmgaaGreat
open Go.RowKit Go.Lib Go.Tk Go.Shelf Go.Vc Go.Sx
theorem issE_many {B : BookV} {s : SaleV} (h : B.issE s = 0) : B.docs.length < 32 := by
  unfold BookV.issE at h
  cases g : decide ((32 : Int) ≤ (B.docs.length : Int)) with
  | true => rw [g] at h; cases h
  | false => have := of_decide_eq_false g; omega
theorem BookOk.issued {B : BookV} (hb : BookOk B) {s : SaleV} (h : B.issE s = 0) : BookOk (B.issued s) := by
  have hm := issE_many h
  refine ⟨hb.self, hb.n, fun i d hd => ?_, ?_⟩
  · have hd : (B.docs ++ [docMade B.nextT s])[i]? = some d := hd
    rw [List.getElem?_append] at hd
    by_cases hi : i < B.docs.length
    · rw [if_pos hi] at hd; exact hb.docs i d hd
    · rw [if_neg hi] at hd
      have hz : i - B.docs.length = 0 := by
        have := (List.getElem?_eq_some_iff.1 hd).1
        simp at this; omega
      rw [hz] at hd
      cases hd
      show B.nextT = _
      unfold BookV.nextT
      rw [show i = B.docs.length by omega]; rfl
  · show (B.docs ++ [docMade B.nextT s]).length ≤ 32
    rw [List.length_append]; simp; omega
theorem turn1_docs (B : BookV) (k : Kid) (o : OwnV) (s : Int) : (turn1 B k o s).docs = B.docs := by
  unfold turn1
  cases freeO o
  · rfl
  · exact setO_docs B k _
theorem turnL_docs (s : Int) (t : Tid) : ∀ (l : List OwnV) (B : BookV) (i : Int), (turnL s t B i l).docs = B.docs
  | [], B, i => rfl
  | o :: l, B, i => by
    show (turnL s t (turn1 B ⟨t, i⟩ o s) (i + 1) l).docs = _
    rw [turnL_docs s t l, turn1_docs]
theorem turnB_docs (B : BookV) (t : Tid) (s : Int) : (turnB B t s).docs = B.docs := turnL_docs s t _ B 0
end Go.Proofs.YtdnaegleifhmgaaGreat
end
section
namespace Go.Proofs.YtdnaegleifhmgaaGreat
open Go.RowKit Go.Lib Go.Tk Go.Shelf Go.Vc Go.Sx
theorem shareL_bds {t : Int} {ws : List Int} (hp : PosRow ws) (ha : 0 < ws.sum) (ht : 0 ≤ t) {i : Nat} (hi : i < ws.length) : 0 ≤ (shareL t ws).getD i 0 ∧ (shareL t ws).getD i 0 ≤ t + 1 := by
  rw [shareL_get _ _ _ hi]
  have hx := posrow_get hp hi
  have e : ws.getD i 0 = ws[i] := by simp [List.getD_eq_getElem?_getD, hi]
  have := wh_bd (t := t) (S := ws.sum) ht ha hx.1 (by rw [e]; exact le_sum ws (fun y hy => (hp y hy).1) _ (List.getElem_mem hi))
  split <;> omega
theorem share_bd {s : SaleV} (ok : SaleOk s) {n : Int} (h : checkE s n = 0) (i : Nat) : 0 ≤ (shareV s.fare (wsOf s)).getD i 0 ∧ (shareV s.fare (wsOf s)).getD i 0 ≤ 1125899906842625 := by
  obtain ⟨-, -, hsh, -⟩ := check_shape h
  obtain ⟨hS, ha, l1, l4, f0, f1⟩ := shape_share ok hsh
  have hv : shareV s.fare (wsOf s) = shareL s.fare (wsOf s) := by unfold shareV; rw [if_pos hS]
  rw [hv]
  by_cases hi : i < (wsOf s).length
  · have := shareL_bds (ws_pos ok) ha f0 hi
    omega
  · rw [List.getD_eq_getElem?_getD, List.getElem?_eq_none (by rw [shareL_len]; omega)]
    exact ⟨Int.le_refl _, by decide⟩
theorem issO_lk (t : Tid) (s : SaleV) (vs : List Int) (L : OwnsV) (k : Kid) : ∀ n, (∃ i : Nat, i < n ∧ k = ⟨t, (i : Int)⟩ ∧ lkt (issO t s vs L n) k = some (ownNew (s.legs.getD i leg0) (vs.getD i 0))) ∨ ((∀ i : Nat, i < n → k ≠ ⟨t, (i : Int)⟩) ∧ lkt (issO t s vs L n) k = lkt L k)
  | 0 => .inr ⟨fun i hi => absurd hi (Nat.not_lt_zero _), rfl⟩
  | n + 1 => by
    have ih := issO_lk t s vs L k n
    have e : issO t s vs L (n + 1) = putt (issO t s vs L n) ⟨t, (n : Int)⟩ (ownNew (s.legs.getD n leg0) (vs.getD n 0)) := rfl
    rw [e, lkt_put]
    by_cases hk : (⟨t, (n : Int)⟩ : Kid) = k
    · rw [if_pos hk]
      exact .inl ⟨n, Nat.lt_succ_self _, hk.symm, rfl⟩
    · rw [if_neg hk]
      rcases ih with ⟨i, hi, h1, h2⟩ | ⟨h1, h2⟩
      · exact .inl ⟨i, by omega, h1, h2⟩
      · exact .inr ⟨fun i hi => by
          by_cases q : i = n
          · subst q; exact fun e => hk e.symm
          · exact h1 i (by omega), h2⟩
theorem ExOk.issued {B : BookV} (h : ExOk B) {s : SaleV} (ok : SaleOk s) (hm : B.issE s = 0) : ExOk (B.issued s) := by
  have hc := issE_check hm
  obtain ⟨-, -, hsh, -⟩ := check_shape hc
  obtain ⟨hS, ha, l1, l4, f0, f1⟩ := shape_share ok hsh
  have hvl : (shareV s.fare (wsOf s)).length = s.legs.length := by rw [shareV_len hS, ws_len]
  have hd : ∀ d ∈ (B.issued s).docs, d ∈ B.docs ∨ d = docMade B.nextT s := fun d hd => by
    have hd : d ∈ B.docs ++ [docMade B.nextT s] := hd
    rcases List.mem_append.1 hd with q | q
    · exact .inl q
    · exact .inr (List.mem_singleton.1 q)
  refine ⟨h.bk.issued hm, fun d q => ?_, fun d q => ?_, fun k o ho => ?_⟩
  · rcases hd d q with q | rfl
    · exact h.sal d q
    · exact ok
  · rcases hd d q with q | rfl
    · exact h.sm d q
    · exact ⟨by have := ok.nl; show s.legs.length ≤ _; omega, by have := ok.nt; show s.taxes.length ≤ _; omega, by show (shareV s.fare (wsOf s)).length ≤ _; omega⟩
  · have ho : lkt (issO B.nextT s (shareV s.fare (wsOf s)) B.owns (shareV s.fare (wsOf s)).length) k = some o := ho
    rcases issO_lk B.nextT s (shareV s.fare (wsOf s)) B.owns k (shareV s.fare (wsOf s)).length with ⟨i, hi, -, h2⟩ | ⟨-, h2⟩
    · rw [h2] at ho
      cases ho
      have := share_bd ok hc i
      show -9223372036854775808 ≤ (shareV s.fare (wsOf s)).getD i 0 ∧ (shareV s.fare (wsOf s)).getD i 0 ≤ 9223372036854775807
      omega
    · rw [h2] at ho
      exact h.own k o ho
theorem ExOk.setD {B : BookV} (h : ExOk B) {d : DocV} (ok : SaleOk d.s) (sm : DocSmall d) : ExOk (B.setD d) := by
  have hd : ∀ x ∈ (B.setD d).docs, x ∈ B.docs ∨ x = d := fun x hx => by
    obtain ⟨y, hy, e⟩ := List.mem_map.1 (show x ∈ putD B.docs d from hx)
    by_cases q : y.t = d.t
    · rw [if_pos q] at e; exact .inr e.symm
    · rw [if_neg q] at e; exact .inl (e ▸ hy)
  refine ⟨⟨h.bk.self, h.bk.n, fun i x hx => ?_, ?_⟩, fun x q => ?_, fun x q => ?_, h.own⟩
  · have e := putD_t B.docs d
    have h1 : ((putD B.docs d).map (·.t))[i]? = some x.t := by rw [List.getElem?_map, show (putD B.docs d)[i]? = some x from hx]; rfl
    rw [e, List.getElem?_map] at h1
    cases h2 : B.docs[i]? with
    | none => rw [h2] at h1; cases h1
    | some y =>
      rw [h2] at h1
      have h3 := h.bk.docs i y h2
      show x.t = ⟨B.self, (i : Int) + 1⟩
      rw [← h3]
      simpa using h1.symm
  · show (putD B.docs d).length ≤ 32
    unfold putD; rw [List.length_map]; exact h.bk.many
  · rcases hd x q with q | rfl
    · exact h.sal x q
    · exact ok
  · rcases hd x q with q | rfl
    · exact h.sm x q
    · exact sm
theorem ExOk.turn1 {B : BookV} (h : ExOk B) {k : Kid} {o : OwnV} (ho : OwnOk o) (s : Int) : ExOk (turn1 B k o s) := by
  have hd := turn1_docs B k o s
  have hs : (Go.Proofs.YtdnaegleifhmgaaGreat.turn1 B k o s).self = B.self ∧ (Go.Proofs.YtdnaegleifhmgaaGreat.turn1 B k o s).n = B.n := by
    unfold Go.Proofs.YtdnaegleifhmgaaGreat.turn1 BookV.setO
    cases freeO o <;> cases (lkt B.owns k).isSome <;> exact ⟨rfl, rfl⟩
  refine ⟨⟨by rw [hs.1, hs.2]; exact h.bk.self, by rw [hs.2]; exact h.bk.n, by rw [hd, hs.1]; exact h.bk.docs, by rw [hd]; exact h.bk.many⟩, by rw [hd]; exact h.sal, by rw [hd]; exact h.sm, fun k' x hx => ?_⟩
  unfold Go.Proofs.YtdnaegleifhmgaaGreat.turn1 BookV.setO at hx
  cases hf : freeO o
  · rw [hf] at hx; exact h.own k' x hx
  · rw [hf] at hx
    cases hl : (lkt B.owns k).isSome
    · rw [hl] at hx; exact h.own k' x hx
    · rw [hl] at hx
      have hx : lkt (putt B.owns k (asO o s)) k' = some x := hx
      rw [lkt_put] at hx
      by_cases e : k = k'
      · rw [if_pos e] at hx; cases hx; exact ho
      · rw [if_neg e] at hx; exact h.own k' x hx
theorem ExOk.turnL (s : Int) (t : Tid) : ∀ (l : List OwnV) {B : BookV} (i : Int), ExOk B → (∀ o ∈ l, OwnOk o) → ExOk (turnL s t B i l)
  | [], B, i, h, _ => h
  | o :: l, B, i, h, hl => ExOk.turnL s t l (i + 1) (h.turn1 (k := ⟨t, i⟩) (hl o List.mem_cons_self) s) fun x hx => hl x (List.mem_cons_of_mem _ hx)
theorem ExOk.turnB {B : BookV} (h : ExOk B) (t : Tid) (s : Int) : ExOk (turnB B t s) := ExOk.turnL s t _ 0 h (h.coup t)
end Go.Proofs.YtdnaegleifhmgaaGreat
end
section
namespace Go.Proofs.YtdnaegleifhmgaaGreat
open Go.RowKit Go.Lib Go.Tk Go.Shelf Go.Vc Go.Sx
def cntC (ds : List DocV) (c : Int) : Nat := (ds.filter fun d => decide (d.t.c = c)).length
def usedC (s : SaleV) (x : CGift) : Int := if x.g < s.fare then x.g else s.fare
def cexD1 (x : CGift) (d : DocV) (nt : Tid) : DocV := { d with kept := (addI d.kept x.k).1, left := 0, dst := nt }
def cexD2 (x : CGift) (d : DocV) (nt : Tid) (s : SaleV) : DocV := { docMade nt s with frm := d.t, credit := x.g, paid := s.fare - usedC s x, left := x.g - usedC s x }
def cexE (x : CGift) (d : DocV) : Int := first2 x.e (addI d.kept x.k).2
def cexB (B : LedV) (d : DocV) (x : CGift) (nt : Tid) (s : SaleV) : LedV :=
  (((issB B nt s).setD (cexD1 x d nt)).setS (cturnN (issB B nt s).slips d.t 7 d.vals.length)).setD (cexD2 x d nt s)
def ceExchangeD (B : LedV) (k : Nat) (who : Int) (s : SaleV) (d : DocV) (x : CGift) : CR :=
  bif cnone x d || !tid0B' d.dst then failC 6 B
  else bif !decide (cexE x d = 0) then failC (cexE x d) B
  else bif !decide (issLE k B.n who s = 0) then failC (issLE k B.n who s) B
  else toldC (cexB B d x ⟨who, (k : Int) + 1⟩ s) ⟨who, (k : Int) + 1⟩ (cpriceI s - usedC s x) (shareV s.fare (wsOf s)).length
def ceExchange (B : LedV) (k : Nat) (who : Int) (t : Tid) (s : SaleV) : CR := match lkD B.docs t with
  | none => failC 4 B
  | some d => bif t.c != who then failC 4 B else ceExchangeD B k who s d (cgiftV B.slips d d.vals.length)
def ceDo (B : LedV) (who : Int) (c : CmdV) : CR :=
  if c.kind = 1 then ceSell B (cntC B.docs who) who c.s
  else if c.kind = 2 then ⟨0, tid0, 0, [], B⟩
  else if c.kind = 3 then ceVoid B who c.t
  else if c.kind = 4 then ceRefund B who c.t
  else if c.kind = 5 then ceExchange B (cntC B.docs who) who c.t c.s
  else if c.kind = 7 then ceGive B who c
  else if c.kind = 9 ∨ c.kind = 10 ∨ c.kind = 11 ∨ c.kind = 12 then ceUse B who c
  else if c.kind = 6 ∨ c.kind = 8 ∨ c.kind = 13 then ⟨0, c.t, 0, [], B⟩
  else failC 1 B
def stepBad (n : Int) (c : CmtV) : Bool := decide (n ≤ c.car) || (decide (c.kind < 1) || (decide (3 < c.kind) || (decide (c.kind = 2) && (decide (n ≤ c.src) || decide (c.src = c.car)))))
def ceStep (B : LedV) (c : CmtV) : CR :=
  bif stepBad B.n c then failC 1 B
  else if c.kind = 2 then ⟨0, tid0, 0, [], B.setS (pkS B.slips c.car c.src c.m)⟩
  else if c.kind = 3 then ⟨0, tid0, 0, [], B⟩
  else ceDo B c.car c.cmd
structure PlOk (n : Int) (s : SlipV) : Prop where
  car : 0 ≤ s.p.car ∧ s.p.car < n
  st : 1 ≤ s.p.st ∧ s.p.st ≤ 7
  paid : s.p.paid = true → s.p.st = 4
  way : s.p.way = true → s.p.st = 1
structure LedG (B : LedV) : Prop where
  ok : LedOk B
  cnt : ∀ c, cntC B.docs c ≤ 32
  ser : ∀ c r, (⟨c, r⟩ : Tid) ∈ B.docs.map (·.t) ↔ 1 ≤ r ∧ r ≤ (cntC B.docs c : Int)
  car : ∀ d ∈ B.docs, d.t.c < B.n
  vl : ∀ d ∈ B.docs, 1 ≤ d.vals.length
  knd : (B.slips.map (·.1)).Nodup
  keys : ∀ k : Kid, (lkt B.slips k).isSome = true ↔ ∃ d ∈ B.docs, d.t = k.t ∧ 0 ≤ k.i ∧ k.i < (d.vals.length : Int)
  pl : ∀ k s, lkt B.slips k = some s → PlOk B.n s
theorem LedG.serials {B : LedV} (h : LedG B) {L : List (DocV × DocA)} (hL : L.map (·.1) = B.docs) (c : Int) : Serials L c (cntC B.docs c) := by
  have hm : ∀ t : Tid, t ∈ (docKV L).map (·.1) ↔ t ∈ B.docs.map (·.t) := fun t => by rw [docKV_map, hL]
  refine ⟨by have := h.cnt c; omega, fun i hi => ?_, ?_⟩
  · have h1 : (⟨c, (i : Int) + 1⟩ : Tid) ∈ (docKV L).map (·.1) := (hm _).2 ((h.ser c _).2 (by omega))
    cases e : lkt (docKV L) ⟨c, (i : Int) + 1⟩ with
    | none => exact absurd h1 (lkt_none.1 e)
    | some p => rw [dAt_some e, (mem_kv e).2]
  · refine lkt_none.2 fun h1 => ?_
    have := (h.ser c _).1 ((hm _).1 h1)
    omega
structure SlipNext (n : Int) (s s' : SlipV) : Prop where
  key : s'.p.key = s.p.key
  v : s'.v = s.v
  l : s'.l = s.l
  ok : PlOk n s'
  non : s.p.nonce ≤ s'.p.nonce ∧ s'.p.nonce ≤ 4294967295
  paid : s.p.paid = true → s'.p.paid = true
  over : 4 ≤ s.p.st → s'.p.st = s.p.st
  fly : s'.p.st = 4 → s.p.st = 4 ∨ s.p.st = 3
  go : s'.p.car ≠ s.p.car → (s'.p.car = s.p.key.t.c ∨ s'.p.nonce = s.p.nonce + 1) ∧ s.p.st = 1 ∧ s'.p.st = 1
theorem SlipNext.refl {n : Int} {s : SlipV} (h : PlOk n s) (h2 : s.p.nonce ≤ 4294967295) : SlipNext n s s :=
  ⟨rfl, rfl, rfl, h, ⟨Int.le_refl _, h2⟩, id, fun _ => rfl, fun e => .inl e, fun e => absurd rfl e⟩
structure SlipsNext (n : Int) (P : Kid → Prop) (S S' : SlipsV) : Prop where
  nd : (S'.map (·.1)).Nodup
  no : ∀ k, lkt S k = none → lkt S' k = none
  old : ∀ k s, lkt S k = some s → ∃ s', lkt S' k = some s' ∧ SlipNext n s s' ∧ (¬ P k → s' = s)
def SlipsFine (n : Int) (S : SlipsV) : Prop := ∀ k s, lkt S k = some s → PlOk n s ∧ s.p.nonce ≤ 4294967295
theorem LedG.fine {B : LedV} (h : LedG B) : SlipsFine B.n B.slips := fun k s hs => ⟨h.pl k s hs, (h.ok.st k s hs).2.2⟩
theorem SlipsNext.refl {n : Int} {P : Kid → Prop} {S : SlipsV} (h : SlipsFine n S) (hn : (S.map (·.1)).Nodup) : SlipsNext n P S S :=
  ⟨hn, fun _ e => e, fun k s hs => ⟨s, hs, .refl (h k s hs).1 (h k s hs).2, fun _ => rfl⟩⟩
theorem SlipsNext.put {n : Int} {S : SlipsV} (h : SlipsFine n S) (hn : (S.map (·.1)).Nodup) {k0 : Kid} {s0 x : SlipV} (h0 : lkt S k0 = some s0) (hx : SlipNext n s0 x) : SlipsNext n (fun k => k = k0) S (putt S k0 x) := by
  refine ⟨putt_nodup hn k0 x, fun k e => ?_, fun k s hs => ?_⟩
  · rw [lkt_put]
    by_cases g : k0 = k
    · subst g; rw [h0] at e; cases e
    · rw [if_neg g]; exact e
  · rw [lkt_put]
    by_cases g : k0 = k
    · subst g
      rw [h0] at hs; cases hs
      exact ⟨x, if_pos rfl, hx, fun q => absurd rfl q⟩
    · rw [if_neg g]
      exact ⟨s, hs, .refl (h k s hs).1 (h k s hs).2, fun _ => rfl⟩
theorem LedG.next {B : LedV} (h : LedG B) {P : Kid → Prop} {S : SlipsV} (hs : SlipsNext B.n P B.slips S) : LedG (B.setS S) := by
  have hb : ∀ k s', lkt S k = some s' → ∃ s, lkt B.slips k = some s ∧ SlipNext B.n s s' := fun k s' e => by
    cases g : lkt B.slips k with
    | none => rw [hs.no k g] at e; cases e
    | some s =>
      obtain ⟨s2, e2, h2, -⟩ := hs.old k s g
      rw [e2] at e; cases e
      exact ⟨s, rfl, h2⟩
  have hi : ∀ k, (lkt S k).isSome = (lkt B.slips k).isSome := fun k => by
    cases g : lkt B.slips k with
    | none => rw [hs.no k g]
    | some s =>
      obtain ⟨s2, e2, -, -⟩ := hs.old k s g
      rw [e2]; rfl
  refine ⟨⟨h.ok.n, fun k s' e => ?_, fun k s' e => ?_, fun k s' e => ?_, h.ok.sal, h.ok.pr, h.ok.vals, h.ok.nodup, h.ok.tid⟩, h.cnt, h.ser, h.car, h.vl, hs.nd, fun k => ?_, fun k s' e => ?_⟩
  · obtain ⟨s, g, x⟩ := hb k s' e
    rw [x.key]; exact h.ok.key k s g
  · obtain ⟨s, g, x⟩ := hb k s' e
    rw [x.v]; exact h.ok.v k s g
  · obtain ⟨s, g, x⟩ := hb k s' e
    have q1 := x.ok.st
    have q2 := x.non
    have q3 := (h.ok.st k s g).2
    exact ⟨by omega, by omega, by omega⟩
  · show (lkt S k).isSome = true ↔ _
    rw [hi k]; exact h.keys k
  · obtain ⟨s, g, x⟩ := hb k s' e
    exact x.ok
def turnX (x : Int) (s : SlipV) : SlipV := bif s.free then { s with p := { s.p with st := x } } else s
theorem free_of {s : SlipV} (h : s.free = true) : s.p.way = false ∧ s.p.car = s.p.key.t.c ∧ s.p.st = 1 := by
  unfold SlipV.free at h
  simp only [Bool.and_eq_true, Bool.not_eq_true', decide_eq_true_eq] at h
  exact ⟨h.1, h.2.1, h.2.2⟩
theorem turnX_next {n : Int} {s : SlipV} (h : PlOk n s) (h2 : s.p.nonce ≤ 4294967295) {x : Int} (hx : 5 ≤ x ∧ x ≤ 7) : SlipNext n s (turnX x s) := by
  unfold turnX
  cases e : s.free with
  | false => exact .refl h h2
  | true =>
    obtain ⟨f1, f2, f3⟩ := free_of e
    refine ⟨rfl, rfl, rfl, ⟨h.car, by show 1 ≤ x ∧ x ≤ 7; omega, fun q => ?_, fun q => ?_⟩, ⟨Int.le_refl _, h2⟩, id, fun q => ?_, fun q => ?_, fun q => absurd rfl q⟩
    · have := h.paid q; omega
    · have q : s.p.way = true := q
      rw [f1] at q; cases q
    · omega
    · have q : x = 4 := q
      omega
theorem slip0_free : slip0.free = false := by decide
theorem lkt_cturn {S : SlipsV} (h : SlipsKey S) (x : Int) (k0 k : Kid) : lkt (cturn S (sAt S k0) x) k = if k = k0 then (lkt S k).map (turnX x) else lkt S k := by
  unfold cturn sAt
  cases e : lkt S k0 with
  | none =>
    rw [Option.getD_none, slip0_free]
    show lkt S k = _
    by_cases g : k = k0
    · subst g; rw [if_pos rfl, e]; rfl
    · rw [if_neg g]
  | some s =>
    rw [Option.getD_some]
    have hk := (h k0 s e).1
    cases f : s.free with
    | false =>
      show lkt S k = _
      by_cases g : k = k0
      · subst g; rw [if_pos rfl, e]
        show some s = some (turnX x s)
        unfold turnX; rw [f]; rfl
      · rw [if_neg g]
    | true =>
      show lkt (putt S s.p.key _) k = _
      rw [lkt_put, hk]
      by_cases g : k = k0
      · subst g; rw [if_pos rfl, if_pos rfl, e]
        show some _ = some (turnX x s)
        unfold turnX; rw [f]; rfl
      · rw [if_neg g, if_neg (fun q => g q.symm)]
theorem cturn_nd {S : SlipsV} (h : (S.map (·.1)).Nodup) (s : SlipV) (x : Int) : ((cturn S s x).map (·.1)).Nodup := by
  unfold cturn
  cases s.free with
  | false => exact h
  | true => exact putt_nodup h _ _
theorem cturnN_nd {S : SlipsV} (h : (S.map (·.1)).Nodup) (t : Tid) (x : Int) : ∀ n, ((cturnN S t x n).map (·.1)).Nodup
  | 0 => h
  | n + 1 => cturn_nd (cturnN_nd h t x n) _ x
theorem lkt_cturnN {S : SlipsV} (h : SlipsKey S) (t : Tid) (x : Int) (k : Kid) : ∀ n : Nat, lkt (cturnN S t x n) k = if k.t = t ∧ 0 ≤ k.i ∧ k.i < (n : Int) then (lkt S k).map (turnX x) else lkt S k
  | 0 => by rw [if_neg (by omega)]; rfl
  | n + 1 => by
    show lkt (cturn (cturnN S t x n) (sAt (cturnN S t x n) ⟨t, (n : Int)⟩) x) k = _
    rw [lkt_cturn (cturnN_key h t x n), lkt_cturnN h t x k n]
    by_cases g : k = ⟨t, (n : Int)⟩
    · subst g
      rw [if_pos rfl, if_neg (by show ¬ (t = t ∧ 0 ≤ (n : Int) ∧ (n : Int) < (n : Int)); omega), if_pos (by show t = t ∧ 0 ≤ (n : Int) ∧ (n : Int) < ((n + 1 : Nat) : Int); exact ⟨rfl, by omega, by omega⟩)]
    · rw [if_neg g]
      by_cases q : k.t = t ∧ 0 ≤ k.i ∧ k.i < (n : Int)
      · rw [if_pos q, if_pos ⟨q.1, q.2.1, by omega⟩]
      · rw [if_neg q, if_neg (fun q2 => by
          obtain ⟨q3, q4, q5⟩ := q2
          refine q ⟨q3, q4, ?_⟩
          have : k.i ≠ (n : Int) := fun e => g (by obtain ⟨kt, ki⟩ := k; simp only at q3 e; rw [q3, e])
          omega)]
theorem turn_next {n : Int} {S : SlipsV} (h : SlipsFine n S) (hk : SlipsKey S) (hn : (S.map (·.1)).Nodup) (t : Tid) {x : Int} (hx : 5 ≤ x ∧ x ≤ 7) (m : Nat) : SlipsNext n (fun k => k.t = t) S (cturnN S t x m) := by
  refine ⟨cturnN_nd hn t x m, fun k e => ?_, fun k s e => ?_⟩
  · rw [lkt_cturnN hk]; split <;> rw [e]; rfl
  · rw [lkt_cturnN hk]
    split
    · rename_i q
      rw [e]
      exact ⟨_, rfl, turnX_next (h k s e).1 (h k s e).2 hx, fun g => absurd q.1 g⟩
    · exact ⟨s, e, .refl (h k s e).1 (h k s e).2, fun _ => rfl⟩
theorem nd_inj {α β : Type} {f : α → β} : ∀ {l : List α}, (l.map f).Nodup → ∀ {a b : α}, a ∈ l → b ∈ l → f a = f b → a = b
  | [], _, _, _, ha, _, _ => absurd ha List.not_mem_nil
  | x :: l, hn, a, b, ha, hb, e => by
    rw [List.map_cons, List.nodup_cons] at hn
    rcases List.mem_cons.1 ha with rfl | ha' <;> rcases List.mem_cons.1 hb with rfl | hb'
    · rfl
    · exact absurd (List.mem_map.2 ⟨b, hb', e.symm⟩) hn.1
    · exact absurd (List.mem_map.2 ⟨a, ha', e⟩) hn.1
    · exact nd_inj hn.2 ha' hb' e
structure SameDoc (d d0 : DocV) : Prop where
  t : d.t = d0.t
  s : d.s = d0.s
  vals : d.vals = d0.vals
theorem cputD_mem {ds : List DocV} {d x : DocV} (h : x ∈ Go.Proofs.YtdnaegleifhmgaaGreat.putD ds d) : (x ∈ ds ∧ x.t ≠ d.t) ∨ (x = d ∧ ∃ y ∈ ds, y.t = d.t) := by
  obtain ⟨y, hy, rfl⟩ := List.mem_map.1 h
  by_cases e : y.t = d.t
  · rw [if_pos e]; exact .inr ⟨rfl, y, hy, e⟩
  · rw [if_neg e]; exact .inl ⟨hy, e⟩
theorem cnt_map {ds es : List DocV} (h : ds.map (·.t) = es.map (·.t)) (c : Int) : cntC ds c = cntC es c := by
  have e : ∀ l : List DocV, cntC l c = ((l.map (·.t)).filter fun t => decide (t.c = c)).length := fun l => by
    unfold cntC
    rw [List.filter_map, List.length_map]; rfl
  rw [e, e, h]
theorem LedG.setD {B : LedV} (h : LedG B) {d d0 : DocV} (h0 : d0 ∈ B.docs) (e : SameDoc d d0) : LedG (B.setD d) := by
  have ht : (B.setD d).docs.map (·.t) = B.docs.map (·.t) := putD_t B.docs d
  have one : ∀ y ∈ B.docs, y.t = d.t → y = d0 := fun y hy q => by
    have hn := h.ok.nodup
    rw [e.t] at q
    exact nd_inj hn hy h0 q
  have hx : ∀ x ∈ (B.setD d).docs, ∃ y ∈ B.docs, SameDoc x y := fun x q => by
    rcases cputD_mem (show x ∈ Go.Proofs.YtdnaegleifhmgaaGreat.putD B.docs d from q) with ⟨q, -⟩ | ⟨rfl, -⟩
    · exact ⟨x, q, rfl, rfl, rfl⟩
    · exact ⟨d0, h0, e⟩
  refine ⟨⟨h.ok.n, h.ok.key, h.ok.v, h.ok.st, fun x q => ?_, fun x q => ?_, fun x q => ?_, by rw [ht]; exact h.ok.nodup, fun x q => ?_⟩, fun c => by rw [cnt_map ht]; exact h.cnt c, fun c r => by rw [ht, cnt_map ht]; exact h.ser c r, fun x q => ?_, fun x q => ?_, h.knd, fun k => ?_, h.pl⟩
  · obtain ⟨y, hy, g⟩ := hx x q; rw [g.s]; exact h.ok.sal y hy
  · obtain ⟨y, hy, g⟩ := hx x q; rw [g.s]; exact h.ok.pr y hy
  · obtain ⟨y, hy, g⟩ := hx x q; rw [g.vals]; exact h.ok.vals y hy
  · obtain ⟨y, hy, g⟩ := hx x q; rw [g.t]; exact h.ok.tid y hy
  · obtain ⟨y, hy, g⟩ := hx x q; rw [g.t]; exact h.car y hy
  · obtain ⟨y, hy, g⟩ := hx x q; rw [g.vals]; exact h.vl y hy
  · rw [show lkt (B.setD d).slips k = lkt B.slips k from rfl, h.keys k]
    constructor
    · rintro ⟨y, hy, g1, g2⟩
      by_cases q : y.t = d.t
      · have := one y hy q
        subst this
        exact ⟨d, List.mem_map.2 ⟨y, hy, if_pos q⟩, by rw [e.t]; exact g1, by rw [e.vals]; exact g2⟩
      · exact ⟨y, List.mem_map.2 ⟨y, hy, if_neg q⟩, g1, g2⟩
    · rintro ⟨x, q, g1, g2⟩
      obtain ⟨y, hy, g⟩ := hx x q
      exact ⟨y, hy, by rw [← g.t]; exact g1, by rw [← g.vals]; exact g2⟩
end Go.Proofs.YtdnaegleifhmgaaGreat
end
