/- Ky4, Kk1. -/
import Derived.Test.YtlekbdpdlalhbaaMebc9901
import Derived.Shelf.SlSortCmp.NoneTotal
import Derived.Test.YtlekbdpdlalhbaaMac4cef3
import Derived.Test.YtlekbdpdlalhbaaMfa6bb7c
import Derived.RangeFuncBox
import Derived.RangeFuncNested
import Derived.RangeFuncBound
import Derived.RangeFuncCalls
import Derived.RangeFuncLeaves
import Derived.RangeFuncGives
import Derived.RangeFuncKeeps
import Derived.Shelf.Abstract
import Derived.Shelf.RegionOpen
import Derived.WalkKit
import Derived.OwnWalkIn
import Derived.TacticsInMore
import Derived.LoopNIn
import Derived.LoopIn
import Derived.Sort.LoopGhostIn
section
namespace Go.Proofs.Ytlekbdpdlalhbaa
set_option maxRecDepth 100000
open Go.RowKit Go.Lib Go.Tk Go.Shelf Go.Maps Go.Sort
section
variable {α : Type} [Inhabited α]
/-- sorted by a comparison -/
def sortBy (cf : α → α → Int) (l : List α) : List α := l.mergeSort fun x y => !(ltOf cf) y x
omit [Inhabited α] in
theorem sortBy_perm (cf : α → α → Int) (l : List α) : (sortBy cf l).Perm l := List.mergeSort_perm _ _
omit [Inhabited α] in
theorem sortBy_pair {cf : α → α → Int} (hS : SWO (ltOf cf)) (l : List α) : (sortBy cf l).Pairwise fun x y => (!(ltOf cf) y x) = true := by
  refine List.pairwise_mergeSort ?_ ?_ _
  · intro a b c h1 h2
    simp only [Bool.not_eq_true'] at h1 h2 ⊢
    exact hS.ntrans c b a h2 h1
  · intro a b
    cases h : ltOf cf b a with
    | false => simp
    | true => simp [hS.asymmA h]
omit [Inhabited α] in
/-- there is one sorted order -/
theorem sortBy_eq {cf : α → α → Int} (hS : SWO (ltOf cf)) (hT : ∀ x y, (ltOf cf) x y = false → (ltOf cf) y x = false → x = y) {a b : List α} (h : a.Perm b) : sortBy cf a = sortBy cf b := by
  refine List.Perm.eq_of_pairwise (le := fun x y => (!(ltOf cf) y x) = true) ?_ (sortBy_pair hS a) (sortBy_pair hS b) (((sortBy_perm cf a).trans h).trans (sortBy_perm cf b).symm)
  intro a b _ _ h1 h2
  simp only [Bool.not_eq_true'] at h1 h2
  exact hT a b h2 h1
omit [Inhabited α] in
/-- what stands in order stays so -/
theorem sortBy_self {cf : α → α → Int} (hS : SWO (ltOf cf)) (hT : ∀ x y, (ltOf cf) x y = false → (ltOf cf) y x = false → x = y) {a : List α} (h : a.Pairwise fun x y => (!(ltOf cf) y x) = true) : sortBy cf a = a := by
  refine List.Perm.eq_of_pairwise (le := fun x y => (!(ltOf cf) y x) = true) ?_ (sortBy_pair hS a) h (sortBy_perm cf a)
  intro a b _ _ h1 h2
  simp only [Bool.not_eq_true'] at h1 h2
  exact hT a b h2 h1
end
theorem collectT_in (F : Fence) (n : Nat) (hF : F.fn 66) (hA : F.fn 83) (hro : F.round = none) (hn : 4 ≤ n) (gf : Nat) (lb : Array Value) (hFg : F.fn gf) (eg : ∀ args w, (callFunc gf args).run Try.prog w = .ok (.enter gf args) w)
    (S Sp : List Tid → Prop) (N : Nat) (hN : N ≤ 1000000000) (w w0 : World) (hb0 : Below w0.heap.size w0 w) (hseq : SeqStopsK F (n - 1 - 1) Try.prog gf lb encT KeepsWalks S Sp N w0) :
    CallsIn F n Try.prog 66 #[.func (.func gf) #[] lb] w fun e w' => ∃ v ss, e = .returned v ∧ S ss ∧ w'.ownsRow w.heap.size 35 2 v ss.length (cellsL tcL ss) ∧ (v = .slice none 0 0 ↔ ss = []) ∧ Below w.heap.size w w' := by
  have h1 : 1 ≤ n := by omega
  have cA := appendT_in F (n - 1) hA hro (by omega) gf lb hFg eg S Sp N hN w w0 hb0 hseq
  refine callsIn_of_wp Try.func66 rfl hF ?_ hro
  simp only [Try.ntmps66, List.size_toArray, List.length_cons, List.length_nil, Nat.reduceAdd, Nat.reduceSub, Array.replicate_succ, Array.replicate_zero, List.push_toArray, List.append_toArray, List.nil_append, List.cons_append]
  gi_wp2_with (gi_at_call 83; refine cA.mono ?_; rintro e w' ⟨v, ss, rfl, hS, hrow, hnil, hb⟩)
  go_ret
  exact ⟨v, ss, rfl, hS, hrow, hnil, hb⟩
def SortedFT : Nat := 36
def Tickets1 : Nat := 38
theorem cells_tid (c : Int) (rs : List Int) : cellsL tcL (rs.map (Tid.mk c)) = cellsL (encS c) rs := by
  unfold cellsL
  rw [List.map_map]
  rfl
theorem tid_back {c : Int} {rs : List Int} {ss : List Tid} (h : ss.Perm (rs.map (Tid.mk c))) : ss = (ss.map (·.r)).map (Tid.mk c) ∧ (ss.map (·.r)).Perm rs := by
  constructor
  · have : ∀ x ∈ ss, x.c = c := fun x hx => by
      obtain ⟨r, -, rfl⟩ := List.mem_map.1 (h.mem_iff.1 hx)
      rfl
    rw [List.map_map]
    conv => lhs; rw [← List.map_id ss]
    refine List.map_congr_left fun x hx => ?_
    have := this x hx
    obtain ⟨a, b⟩ := x
    cases this
    rfl
  · have := h.map (·.r)
    rw [List.map_map, show ((fun x : Tid => x.r) ∘ Tid.mk c) = id from rfl, List.map_id] at this
    exact this
set_option maxHeartbeats 4000000 in
/-- a map's tickets, all of one carrier, sorted by their numbers -/
theorem sortedT_any (Bn b : Nat) (L : List (Tid × Value)) (c : Int) (rs : List Int) (hL : L.map (·.1) = rs.map (Tid.mk c)) (w : World) (hm : MapAt tidK w b L) (hBn : w.cell? ⟨Bn, 0, none⟩ = some (.map (some b))) (hlen : L.length ≤ 1000000000) :
    Calls Try.prog SortedFT #[.func (.func KeysT1) #[] #[.pointer (some ⟨Bn, 0, none⟩)], .func (.func Tickets1) #[] #[]] w fun e w' => ∃ v, e = .returned v ∧ w'.ownsRow w.heap.size 35 2 v rs.length (cellsL tcL ((sortBy cmpI rs).map (Tid.mk c))) ∧ Below w.heap.size w w' := by
  refine (callsIn_wide (n := 8)).1 ?_
  have hbl : b < w.heap.size := hm.lt
  have hBl : Bn < w.heap.size := World.block_lt_of_cell? w _ hBn
  have hseq : SeqStopsK Fence.wide 5 Try.prog KeysT1 #[.pointer (some ⟨Bn, 0, none⟩)] encT KeepsWalks (fun ys => ys.Perm (L.map (·.1))) (fun pre => ∃ rest, (pre ++ rest).Perm (L.map (·.1))) L.length w := fun l J Jx W hW hJ hJx hY h0 =>
    keysT1_in Fence.wide 5 trivial rfl (by omega) l Bn b L J Jx W hJ (hm.same (hW.block b hbl)) ((hW.cell (p := ⟨Bn, 0, none⟩) hBl).trans hBn) hY h0
  have cC := collectT_in Fence.wide 7 trivial trivial rfl (by omega) KeysT1 #[.pointer (some ⟨Bn, 0, none⟩)] trivial (enters_of Try.func68 (by kernel_rfl) rfl) _ _ L.length hlen w w (Below.refl _ _) hseq
  have hfC : Fence.wide.fn 66 := trivial
  have hfS : Fence.wide.fn 67 := trivial
  have hLL : L.length = rs.length := by have := congrArg List.length hL; simpa using this
  rw [hL] at cC
  clear hseq hm hBn hL
  unfold SortedFT
  refine callsIn_of_wp Try.func36 rfl trivial ?_ rfl
  simp only [Try.ntmps36, List.size_toArray, List.length_cons, List.length_nil, Nat.reduceAdd, Nat.reduceSub, Array.replicate_succ, Array.replicate_zero, List.push_toArray, List.append_toArray, List.nil_append, List.cons_append]
  gi_wp2_with (gi_at_call 66; refine cC.mono ?_; rintro e W ⟨v, ss, rfl, hS, hrow, hnil, hb⟩)
  obtain ⟨hss, hpm⟩ := tid_back hS
  obtain ⟨d, hd⟩ : ∃ d, d = ss.map (·.r) := ⟨_, rfl⟩
  rw [← hd] at hss hpm
  have hsort : sortBy cmpI d = sortBy cmpI rs := sortBy_eq swoI totI hpm
  have hdl : d.length = rs.length := hpm.length_eq
  have hsl : ss.length = rs.length := by rw [hss, List.length_map, hdl]
  rw [hsl, hss, cells_tid] at hrow
  have HD := hid hd
  clear hss hd
  rcases hrow.2 with ⟨rfl, hz⟩ | ⟨gb, cap, cur, rfl, hbase, hgb, r1, r2, r3, r4⟩
  · have hrs : rs = [] := List.eq_nil_of_length_eq_zero hz
    subst hrs
    have cN : CallsIn Fence.wide 7 Try.prog 67 #[.slice none 0 0, .func (.func Tickets1) #[] #[]] W fun e w' => e = .returned (.tuple #[]) ∧ w' = W := callsIn_wide.2 (AnyF.slices_SortFunc_none sortT none 0 _ W)
    gi_wp2_with (gi_at_call 67; refine cN.mono ?_; rintro e w' ⟨rfl, rfl⟩)
    go_ret
    refine ⟨_, rfl, ?_, hb⟩
    have hdn : d = [] := List.eq_nil_of_length_eq_zero hdl
    rw [cells_tid, ← hsort, HD.out]
    rw [HD.out] at hdn
    have e0 : sortBy cmpI (ss.map (·.r)) = [] := by
      have := (sortBy_perm cmpI (ss.map (·.r))).length_eq
      rw [hdn] at this ⊢
      exact List.eq_nil_of_length_eq_zero this
    rw [e0]
    rw [HD.out, hdn] at hrow
    exact hrow
  · have hda : d.toArray.size = rs.length := by simpa using hdl
    have hH : HoldsK (encS c) 2 W gb 0 d.toArray := holdsK_of_owns (enc := encS c) (k := 2) (fun _ => rfl) d.toArray hda hrow
    have hgl : gb < W.heap.size := (Array.getElem?_eq_some_iff.1 hgb).1
    have cS : CallsIn Fence.wide 7 Try.prog 67 #[.slice (some ⟨gb, 0, none⟩) d.toArray.size cap, .func (.func Tickets1) #[] #[]] W fun e w' => e = .returned (.tuple #[]) ∧ ∃ n os, w' = sortWorldK (encS c) 2 W gb 0 n (sortBy cmpI d).toArray os :=
      callsIn_wide.2 (AnyQ.slices_SortFunc_total sortT 2 Try.isAgg35 Try.sizeOf35 (encS c) (fun _ => rfl) (fun x v hv => by simp [encS] at hv; rcases hv with rfl | rfl <;> rfl) cmpI swoI Tickets1 #[] gb 0 cap d.toArray W (enters_of Try.func38 (by kernel_rfl) rfl) (cmpT_lays c gb 0 _ W) hH hgl (by rw [hda]; omega) totI)
    rw [hda] at cS
    gi_wp2_with (gi_at_call 67; refine cS.mono ?_; rintro e w' ⟨rfl, nn, os, rfl⟩)
    go_ret
    refine ⟨_, rfl, ?_, ?_⟩
    · have := ownsRow_sortedK (m := nn) (os := os) (enc := encS c) (fun _ => rfl) (sortBy cmpI d).toArray (by have := (sortBy_perm cmpI d).length_eq; simpa [hdl] using this) _ hrow
      rw [cells_tid, ← hsort]
      exact this
    · exact hb.grown (swk_grown ⟨nn, os, rfl⟩) hb.size (fun j hj => by cases hj; exact hbase)
end Go.Proofs.Ytlekbdpdlalhbaa
end
section
namespace Go.Proofs.Ytlekbdpdlalhbaa
set_option maxRecDepth 100000
open Go.RowKit Go.Lib Go.Tk Go.Shelf Go.Maps
attribute [local go_sem] Oper.semAt_some
def KeysK1 : Nat := 72
abbrev encKy (x : Kid) : Array Value := #[kidV x]
set_option maxHeartbeats 4000000 in
theorem keysK1_in (F : Fence) (n : Nat) (hF : F.fn KeysK1) (hro : F.round = none) (hn : 1 ≤ n) (l Bn b : Nat) (L : List (Kid × Value)) (J Jx : List Kid → World → Prop) (W : World) (hA : AbidesFrom W.heap.size J)
    (hm : MapAt kidK W b L) (hBn : W.cell? ⟨Bn, 0, none⟩ = some (.map (some b)))
    (hY : ∀ pre x W1, J pre W1 → pre.length < L.length → YieldAt F (n - 1) Try.prog l (encKy x) W1 fun e W' =>
      (e = .returned (.bool true) ∧ J (pre ++ [x]) W' ∧ KeepsWalks W1 W') ∨ (e = .returned (.bool false) ∧ Jx (pre ++ [x]) W')) (h0 : J [] W) :
    CallsIn F n Try.prog KeysK1 #[.func (.yield l) #[] #[], .pointer (some ⟨Bn, 0, none⟩)] W fun e W' => (∃ v, e = .returned v) ∧
      ((∃ ys, ys.Perm (L.map (·.1)) ∧ J ys W') ∨ (∃ pre, (∃ rest, (pre ++ rest).Perm (L.map (·.1))) ∧ Jx pre W')) := by
  have HY := hid hY
  have HA := hid hA
  have hsz : Aside (∀ x : Nat, x = W.heap.size → x = W.heap.size) := fun _ e => e
  clear hY hA
  refine callsIn_of_wp Try.func72 rfl hF ?_ hro
  simp only [Try.ntmps72, List.size_toArray, List.length_cons, List.length_nil, Nat.reduceAdd, Nat.reduceSub, Array.replicate_succ, Array.replicate_zero, List.push_toArray, List.append_toArray, List.nil_append, List.cons_append]
  gi_wp2_with (first
    | (gi_at_range; refine wpListIn_range_mapA rfl _ 78 rfl Try.underlying78 rfl hm ?_; intro w1 hrg hb1)
    | gi_in)
  go_frame
  have hJ1 := HA.out [] W w1 none h0 (grown_of_below hb1) (fun r e => by cases e)
  have Hrg := hid hrg
  have HB1 := hid hb1.size
  clear hrg hb1 hm hBn h0
  gi_loopg [] L.length (fun k wr => ∃ (done : List Kid) (left : List (Kid × Value)), k = left.length ∧ Hid (Ranging kidK wr W.heap.size b L left) ∧ Hid ((done ++ left.map (·.1)).Perm (L.map (·.1))) ∧ J done wr ∧ Hid (W.heap.size ≤ wr.heap.size))
  case atStart => exact ⟨[], L, rfl, Hrg, (by rw [List.nil_append]; exact List.Perm.refl _), hJ1, HB1⟩
  case round =>
    obtain ⟨done, left, rfl, hr, hp, hj, hs⟩ := hrel
    gi_wp2_with (first
      | (gi_at_next; refine wpListIn_next_mapA rfl _ rfl rfl hr.out ?_ ?_)
      | gi_in)
    · intro hnil
      subst hnil
      have hp' : done.Perm (L.map (·.1)) := by have := hp.out; simpa using this
      gi_wp2
      go_end0
      exact ⟨⟨_, rfl⟩, .inl ⟨done, hp', hj⟩⟩
    · intro pk pv left' w2 hpl hmem hr2 hg hen
      have hr2' := hid hr2
      have hj2 := HA.out done wr w2 (some W.heap.size) hj hg (fun r e => by cases e; exact ⟨Nat.le_refl _, by
        obtain ⟨es, clock, since, seen, -, h1, -⟩ := hr.out
        exact ⟨_, h1, rfl⟩⟩)
      have hlen := hpl.length_eq
      simp only [List.length_cons] at hlen
      have hp2 : (done ++ [pk] ++ left'.map (·.1)).Perm (L.map (·.1)) := by
        refine List.Perm.trans ?_ hp.out
        rw [List.append_assoc]
        have hq : (pk :: left'.map (fun p : Kid × Value => p.1)).Perm (left.map (fun p : Kid × Value => p.1)) := (List.Perm.map (fun p : Kid × Value => p.1) hpl).symm
        exact List.Perm.append_left done hq
      have hs2 : W.heap.size ≤ w2.heap.size := Nat.le_trans hs.out hg.size
      have hdl : done.length < L.length := by
        have := hp2.length_eq
        simp only [List.length_append, List.length_cons, List.length_nil, List.length_map] at this
        omega
      have HP2 := hid hp2
      have HS2 := hid hs2
      have HLE := hid hlen
      obtain ⟨w3, hw3⟩ : ∃ w3, w2.alloc (.cells #[.int .u8 pk.t.c, .int .u64 pk.t.r, .int .u8 pk.i] 56) = w3 := ⟨_, rfl⟩
      have hb3 : Below w2.heap.size w2 w3 := by rw [← hw3]; exact (Below.refl w2.heap.size w2).alloc (Nat.le_refl _) _
      have hj3 := HA.out done w2 w3 none hj2 (grown_of_below hb3) (fun r e => by cases e)
      have hr3 := hid (hr2.of_walks (KeepsWalks.alloc w2 (.cells #[.int .u8 pk.t.c, .int .u64 pk.t.r, .int .u8 pk.i] 56)))
      rw [hw3] at hr3
      have hB3 : w3.heap[w2.heap.size]? = some (.cells #[.int .u8 pk.t.c, .int .u64 pk.t.r, .int .u8 pk.i] 56 (0, 0)) := by rw [← hw3]; exact World.alloc_heap_new w2 _
      have hcA : w3.cell? ⟨w2.heap.size, 0, none⟩ = some (.int .u8 pk.t.c) := by simp [World.cell?, hB3]
      have hcB : w3.cell? ⟨w2.heap.size, 1, none⟩ = some (.int .u64 pk.t.r) := by simp [World.cell?, hB3]
      have hcC : w3.cell? ⟨w2.heap.size, 2, none⟩ = some (.int .u8 pk.i) := by simp [World.cell?, hB3]
      have hs3 := hid (Nat.le_trans hs2 hb3.size)
      have HP2 := hid hp2
      have HLE := hid hlen
      clear hp hr hj hs hpl hmem hg hp2 hs2 hlen hr2 hr2' hj2 hb3 hB3
      obtain ⟨fn, tmps, assign, body, hy, hR⟩ := HY.out done pk w3 hj3 hdl
      simp only [encKy, show kidV pk = .agg #[.int .u8 pk.t.c, .int .u64 pk.t.r, .int .u8 pk.i] from rfl] at hy
      simp only [show kidK.kv pk = .agg #[.int .u8 pk.t.c, .int .u64 pk.t.r, .int .u8 pk.i] from rfl] at hen ⊢
      gi_wp2
      refine hR.mono ?_
      rintro e W3 (⟨rfl, hJ3, hk3⟩ | ⟨rfl, hJx3⟩)
      · have hr4 := hid (hr3.out.of_walks hk3)
        have hs4 := hid (Nat.le_trans hs3.out hk3.1)
        have hle : left'.length < left.length := by have := HLE.out; omega
        gi_wp2
        gi_roundg left'.length
        case rel => exact ⟨done ++ [pk], left', rfl, hr4, HP2, hJ3, hs4⟩
        case measure => exact hle
      · gi_wp2
        refine bodyPost_ret (results_none rfl _ _ _) rfl ?_
        exact ⟨⟨_, rfl⟩, .inr ⟨done ++ [pk], ⟨_, HP2.out⟩, hJx3⟩⟩
end Go.Proofs.Ytlekbdpdlalhbaa
end
