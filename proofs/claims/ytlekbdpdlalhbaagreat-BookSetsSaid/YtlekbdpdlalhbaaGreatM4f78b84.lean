/- Kk5, Kk6, Ky5, Ky6, Open, Flat, OpA. -/
import Derived.Test.YtlekbdpdlalhbaaGreatM6ae9300
import Derived.Test.YtlekbdpdlalhbaaGreatM33331ff
import Derived.Test.YtlekbdpdlalhbaaGreatM9546967
import Derived.Test.YtlekbdpdlalhbaaGreatM967e4a0
import Derived.Test.YtlekbdpdlalhbaaGreatMf8d58ad
import Derived.WideShapes
import Derived.Lib.SmallJoins
import Derived.Test.YtlekbdpdlalhbaaGreatM03a5973
section
namespace Go.Proofs.YtlekbdpdlalhbaaGreat
set_option maxRecDepth 100000
open Go.RowKit Go.Lib Go.Tk Go.Shelf Go.Maps Go.Sort
def ltK (x y : Kid) : Prop := x.t.c < y.t.c ∨ (x.t.c = y.t.c ∧ (x.t.r < y.t.r ∨ (x.t.r = y.t.r ∧ x.i < y.i)))
theorem lt_kid (x y : Kid) : (ltOf cfK x y = true) ↔ ltK x y := by
  unfold ltOf cfK orI ltK cmpI
  rcases Int.lt_trichotomy x.t.c y.t.c with h | h | h
  · have : ¬ y.t.c < x.t.c := by omega
    simp [h]
  · rw [h]
    rcases Int.lt_trichotomy x.t.r y.t.r with g | g | g
    · simp [g]
    · rw [g]
      rcases Int.lt_trichotomy x.i y.i with k | k | k
      · simp [k]
      · rw [k]; simp
      · have : ¬ x.i < y.i := by omega
        simp [k, this]
    · have a : ¬ x.t.r < y.t.r := by omega
      have b : ¬ x.t.r = y.t.r := by omega
      simp [g, a, b]
  · have a : ¬ x.t.c < y.t.c := by omega
    have b : ¬ x.t.c = y.t.c := by omega
    simp [h, a, b]
theorem lt_kid_no (x y : Kid) : (ltOf cfK x y = false) ↔ ¬ ltK x y := by
  rw [← lt_kid]
  cases ltOf cfK x y <;> simp
theorem swoK : SWO (ltOf cfK) where
  irrefl x := by rw [lt_kid_no]; unfold ltK; omega
  trans x y z h1 h2 := by rw [lt_kid] at *; unfold ltK at *; omega
  ntrans x y z h1 h2 := by rw [lt_kid_no] at *; unfold ltK at *; omega
theorem totK (x y : Kid) (h1 : ltOf cfK x y = false) (h2 : ltOf cfK y x = false) : x = y := by
  rw [lt_kid_no] at h1 h2
  unfold ltK at h1 h2
  obtain ⟨⟨a, b⟩, c⟩ := x
  obtain ⟨⟨d, e⟩, f⟩ := y
  simp only at h1 h2
  have e1 : a = d := by omega
  have e2 : b = e := by omega
  have e3 : c = f := by omega
  rw [e1, e2, e3]
theorem cmpK_lays (blk off size : Nat) (w : World) : CmpLays Tryz.prog 96 #[] kcL 3 cfK blk off size w := by
  intro m os dk _ x y
  refine (keys1_any x y _).mono ?_
  rintro e w' ⟨rfl, h⟩
  exact ⟨rfl, h⟩
end Go.Proofs.YtlekbdpdlalhbaaGreat
end
section
namespace Go.Proofs.YtlekbdpdlalhbaaGreat
set_option maxRecDepth 100000
open Go.RowKit Go.Lib Go.Tk Go.Shelf Go.Maps Go.Sort
theorem collectK_in (F : Fence) (n : Nat) (hF : F.fn 150) (hA : F.fn 193) (hro : F.round = none) (hn : 4 ≤ n) (gf : Nat) (lb : Array Value) (hFg : F.fn gf) (eg : ∀ args w, (callFunc gf args).run Tryz.prog w = .ok (.enter gf args) w)
    (S Sp : List Kid → Prop) (N : Nat) (hN : N ≤ 1000000000) (w w0 : World) (hb0 : Below w0.heap.size w0 w) (hseq : SeqStopsK F (n - 1 - 1) Tryz.prog gf lb encKy KeepsWalks S Sp N w0) :
    CallsIn F n Tryz.prog 150 #[.func (.func gf) #[] lb] w fun e w' => ∃ v ss, e = .returned v ∧ S ss ∧ w'.ownsRow w.heap.size 27 3 v ss.length (cellsL kcL ss) ∧ (v = .slice none 0 0 ↔ ss = []) ∧ Below w.heap.size w w' := by
  have h1 : 1 ≤ n := by omega
  have cA := appendK_in F (n - 1) hA hro (by omega) gf lb hFg eg S Sp N hN w w0 hb0 hseq
  refine callsIn_of_wp Tryz.func150 rfl hF ?_ hro
  simp only [Tryz.ntmps150, List.size_toArray, List.length_cons, List.length_nil, Nat.reduceAdd, Nat.reduceSub, Array.replicate_succ, Array.replicate_zero, List.push_toArray, List.append_toArray, List.nil_append, List.cons_append]
  gi_wp2_with (gi_at_call 193; refine cA.mono ?_; rintro e w' ⟨v, ss, rfl, hS, hrow, hnil, hb⟩)
  go_ret
  exact ⟨v, ss, rfl, hS, hrow, hnil, hb⟩
def SortedFK : Nat := 94
def Keys1F : Nat := 96
set_option maxHeartbeats 4000000 in
/-- a map's keys, sorted -/
theorem sortedK_any (Bn b : Nat) (L : List (Kid × Value)) (rs : List Kid) (hL : L.map (·.1) = rs) (w : World) (hm : MapAt kidK w b L) (hBn : w.cell? ⟨Bn, 0, none⟩ = some (.map (some b))) (hlen : L.length ≤ 1000000000) :
    Calls Tryz.prog SortedFK #[.func (.func KeysK1) #[] #[.pointer (some ⟨Bn, 0, none⟩)], .func (.func Keys1F) #[] #[]] w fun e w' => ∃ v, e = .returned v ∧ w'.ownsRow w.heap.size 27 3 v rs.length (cellsL kcL (sortBy cfK rs)) ∧ Below w.heap.size w w' := by
  refine (callsIn_wide (n := 8)).1 ?_
  have hbl : b < w.heap.size := hm.lt
  have hBl : Bn < w.heap.size := World.block_lt_of_cell? w _ hBn
  have hseq : SeqStopsK Fence.wide 5 Tryz.prog KeysK1 #[.pointer (some ⟨Bn, 0, none⟩)] encKy KeepsWalks (fun ys => ys.Perm (L.map (·.1))) (fun pre => ∃ rest, (pre ++ rest).Perm (L.map (·.1))) L.length w := fun l J Jx W hW hJ hJx hY h0 =>
    keysK1_in Fence.wide 5 trivial rfl (by omega) l Bn b L J Jx W hJ (hm.same (hW.block b hbl)) ((hW.cell (p := ⟨Bn, 0, none⟩) hBl).trans hBn) hY h0
  have cC := collectK_in Fence.wide 7 trivial trivial rfl (by omega) KeysK1 #[.pointer (some ⟨Bn, 0, none⟩)] trivial (enters_of Tryz.func152 (by kernel_rfl) rfl) _ _ L.length hlen w w (Below.refl _ _) hseq
  have hfC : Fence.wide.fn 150 := trivial
  have hfS : Fence.wide.fn 151 := trivial
  have hLL : L.length = rs.length := by have := congrArg List.length hL; simpa using this
  rw [hL] at cC
  clear hseq hm hBn hL
  unfold SortedFK
  refine callsIn_of_wp Tryz.func94 rfl trivial ?_ rfl
  simp only [Tryz.ntmps94, List.size_toArray, List.length_cons, List.length_nil, Nat.reduceAdd, Nat.reduceSub, Array.replicate_succ, Array.replicate_zero, List.push_toArray, List.append_toArray, List.nil_append, List.cons_append]
  gi_wp2_with (gi_at_call 150; refine cC.mono ?_; rintro e W ⟨v, ss, rfl, hS, hrow, hnil, hb⟩)
  have hsort : sortBy cfK ss = sortBy cfK rs := sortBy_eq swoK totK hS
  have hsl : ss.length = rs.length := hS.length_eq
  rw [hsl] at hrow
  rcases hrow.2 with ⟨rfl, hz⟩ | ⟨gb, cap, cur, rfl, hbase, hgb, r1, r2, r3, r4⟩
  · have hrs : rs = [] := List.eq_nil_of_length_eq_zero hz
    subst hrs
    have cN : CallsIn Fence.wide 7 Tryz.prog 151 #[.slice none 0 0, .func (.func Keys1F) #[] #[]] W fun e w' => e = .returned (.tuple #[]) ∧ w' = W := callsIn_wide.2 (AnyF.slices_SortFunc_none sortK none 0 _ W)
    gi_wp2_with (gi_at_call 151; refine cN.mono ?_; rintro e w' ⟨rfl, rfl⟩)
    go_ret
    refine ⟨_, rfl, ?_, hb⟩
    have hdn : ss = [] := List.eq_nil_of_length_eq_zero hsl
    subst hdn
    have e0 : sortBy cfK ([] : List Kid) = [] := List.eq_nil_of_length_eq_zero (sortBy_perm cfK []).length_eq
    rw [e0]
    exact hrow
  · have hda : ss.toArray.size = rs.length := by simpa using hsl
    have hH : HoldsK kcL 3 W gb 0 ss.toArray := holdsK_of_owns (enc := kcL) (k := 3) (fun _ => rfl) ss.toArray hda hrow
    have hgl : gb < W.heap.size := (Array.getElem?_eq_some_iff.1 hgb).1
    have cS : CallsIn Fence.wide 7 Tryz.prog 151 #[.slice (some ⟨gb, 0, none⟩) ss.toArray.size cap, .func (.func Keys1F) #[] #[]] W fun e w' => e = .returned (.tuple #[]) ∧ ∃ n os, w' = sortWorldK kcL 3 W gb 0 n (sortBy cfK ss).toArray os :=
      callsIn_wide.2 (AnyQ.slices_SortFunc_total sortK 3 Tryz.isAgg27 Tryz.sizeOf27 (kcL) (fun _ => rfl) (fun x v hv => by simp [kcL] at hv; rcases hv with rfl | rfl | rfl <;> rfl) cfK swoK Keys1F #[] gb 0 cap ss.toArray W (enters_of Tryz.func96 (by kernel_rfl) rfl) (cmpK_lays gb 0 _ W) hH hgl (by rw [hda]; omega) totK)
    rw [hda] at cS
    gi_wp2_with (gi_at_call 151; refine cS.mono ?_; rintro e w' ⟨rfl, nn, os, rfl⟩)
    go_ret
    refine ⟨_, rfl, ?_, ?_⟩
    · have := ownsRow_sortedK (m := nn) (os := os) (enc := kcL) (k := 3) (fun _ => rfl) (sortBy cfK ss).toArray (by have := (sortBy_perm cfK ss).length_eq; simpa [hsl] using this) _ hrow
      rw [← hsort]
      exact this
    · exact hb.grown (swk_grown ⟨nn, os, rfl⟩) hb.size (fun j hj => by cases hj; exact hbase)
end Go.Proofs.YtlekbdpdlalhbaaGreat
end
section
namespace Go.Proofs.YtlekbdpdlalhbaaGreat
set_option maxRecDepth 100000
open Go.RowKit Go.Lib Go.Tk Go.Shelf Go.Vc Go.Sx Go.Maps
set_option linter.unusedVariables false
set_option linter.unusedSimpArgs false
theorem mem_owns {cs : List Chunk} {w w' : World} (h : Mem cs w) (hb : Below w.heap.size w w') {E : TypeId} {size n : Nat} {v : Value} {xs : List Value} (ho : w'.ownsRow w.heap.size E size v n xs) : Mem (rowC E size v n xs :: cs) w' := by
  refine h.fresh hb (fun k => v.ownBlock = some k) ⟨fun g hg => hg, ho.1, ?_⟩ (fun k hk => ho.lt k hk)
  rcases ho.2 with h1 | ⟨g, cap, cur, hv, hbase, hgb, r1, r2, r3, r4⟩
  · exact .inl h1
  · exact .inr ⟨g, cap, cur, hv, ⟨E, (0, 0), (fun _ h => by cases h; rfl), hgb, noFz_none _⟩, r1, r2, r3, r4⟩
theorem sortedT_c (F : CF) {L : List (Tid × Value)} {c : Int} {rs : List Int} (hF : ∀ b v S w, (F b v).at_ S w → MapAt tidK w b L) (hL : L.map (·.1) = rs.map (Tid.mk c)) (hlen : L.length ≤ 1000000000) :
    CallOK Tryz.prog SortedFT [.fn (.func KeysT1) [] [.ptr 0 5 0], .fn (.func Tickets1) [] []] [((0, 1), .fam F)] [((0, 5), .box none [.map 0 1])] (.raw 1 0) [((0, 5), .box none [.map 0 1]), ((1, 0), .row 25 2 rs.length (.shal (cellsL tcL ((sortBy cmpI rs).map (Tid.mk c)))) [])] := by
  intro ε R w hM
  have hM : Mem (F (ε 0 1).1 (ε 0 1).2 :: boxE none (ε 0 5).1 #[.map (some (ε 0 1).1)] :: R) w := hM
  have hm : MapAt tidK w (ε 0 1).1 L := hM.of 0 rfl (fun S hS => hF _ _ _ _ hS)
  have hc : w.cell? ⟨(ε 0 5).1, 0, none⟩ = some (.map (some (ε 0 1).1)) := (hM.box 1 rfl).cell 0 rfl
  refine (sortedT_any (ε 0 5).1 (ε 0 1).1 L c rs hL w hm hc hlen).mono ?_
  rintro e w' ⟨v, rfl, hrow, hb⟩
  obtain ⟨va, vc, rfl, -, -, -⟩ := own_slice hrow
  have h1 := ((mem_owns hM hb hrow).front 2 rfl).front 2 rfl
  have e1 : ∀ x : Nat → Nat × Value, eset ε 1 x 1 = x := fun x => by simp [eset]
  have e0 : ∀ x : Nat → Nat × Value, eset ε 1 x 0 = ε 0 := fun x => eset_ne (by decide)
  refine ⟨fun _ => (0, .slice va rs.length vc), by simp only [SV.den]; rw [e1]; rfl, ?_⟩
  show Mem (F (eset ε 1 _ 0 1).1 (eset ε 1 _ 0 1).2 :: boxE none (eset ε 1 _ 0 5).1 #[.map (some (eset ε 1 _ 0 1).1)] :: rowC 25 2 (asSl (eset ε 1 _ 1 0).2) rs.length _ :: R) w'
  rw [e1, e0]
  exact h1
theorem sortedK_c (F : CF) {L : List (Kid × Value)} {rs : List Kid} (hF : ∀ b v S w, (F b v).at_ S w → MapAt kidK w b L) (hL : L.map (·.1) = rs) (hlen : L.length ≤ 1000000000) :
    CallOK Tryz.prog SortedFK [.fn (.func KeysK1) [] [.ptr 0 5 0], .fn (.func Keys1F) [] []] [((0, 3), .fam F)] [((0, 5), .box none [.map 0 3])] (.raw 1 0) [((0, 5), .box none [.map 0 3]), ((1, 0), .row 27 3 rs.length (.shal (cellsL kcL (sortBy cfK rs))) [])] := by
  intro ε R w hM
  have hM : Mem (F (ε 0 3).1 (ε 0 3).2 :: boxE none (ε 0 5).1 #[.map (some (ε 0 3).1)] :: R) w := hM
  have hm : MapAt kidK w (ε 0 3).1 L := hM.of 0 rfl (fun S hS => hF _ _ _ _ hS)
  have hc : w.cell? ⟨(ε 0 5).1, 0, none⟩ = some (.map (some (ε 0 3).1)) := (hM.box 1 rfl).cell 0 rfl
  refine (sortedK_any (ε 0 5).1 (ε 0 3).1 L rs hL w hm hc hlen).mono ?_
  rintro e w' ⟨v, rfl, hrow, hb⟩
  obtain ⟨va, vc, rfl, -, -, -⟩ := own_slice hrow
  have h1 := ((mem_owns hM hb hrow).front 2 rfl).front 2 rfl
  have e1 : ∀ x : Nat → Nat × Value, eset ε 1 x 1 = x := fun x => by simp [eset]
  have e0 : ∀ x : Nat → Nat × Value, eset ε 1 x 0 = ε 0 := fun x => eset_ne (by decide)
  refine ⟨fun _ => (0, .slice va rs.length vc), by simp only [SV.den]; rw [e1]; rfl, ?_⟩
  show Mem (F (eset ε 1 _ 0 3).1 (eset ε 1 _ 0 3).2 :: boxE none (eset ε 1 _ 0 5).1 #[.map (some (eset ε 1 _ 0 3).1)] :: rowC 27 3 (asSl (eset ε 1 _ 1 0).2) rs.length _ :: R) w'
  rw [e1, e0]
  exact h1
def KeysTF : Nat := 91
def KeysKF : Nat := 95
theorem keysT_c : CallOK Tryz.prog KeysTF [.map 0 1] [] [] (.fn (.func KeysT1) [] [.ptr 1 0 0]) [((1, 0), .box none [.map 0 1])] := callOK_run 400 [] (by kernel_rfl) (by kernel_rfl)
theorem keysK_c : CallOK Tryz.prog KeysKF [.map 0 3] [] [] (.fn (.func KeysK1) [] [.ptr 1 0 0]) [((1, 0), .box none [.map 0 3])] := callOK_run 400 [] (by kernel_rfl) (by kernel_rfl)
def TicketsF : Nat := 28
def KeysF : Nat := 29
theorem tickets_w (F : CF) (B : BookV) {L : List (Tid × Value)} {c : Int} {rs : List Int} (hF : ∀ b v S w, (F b v).at_ S w → MapAt tidK w b L) (hL : L.map (·.1) = rs.map (Tid.mk c)) (hlen : L.length ≤ 1000000000) :
    CallOK Tryz.prog TicketsF [.ptr 0 0 0] (bkH F B) [] (.raw 1 0) [((1, 0), .row 25 2 rs.length (.shal (cellsL tcL ((sortBy cmpI rs).map (Tid.mk c)))) [])] := by
  have c1 := keysT_c
  have c2 := sortedT_c F hF hL hlen
  exact callOK_run 400 [hC 3 4 c1, hC 3 5 c2] (by kernel_rfl) (by kernel_rfl)
theorem keys_w (F : CF) (B : BookV) (hlen : B.helds.length ≤ 1000000000) :
    CallOK Tryz.prog KeysF [.ptr 0 0 0] (bkH F B) [] (.raw 1 0) [((1, 0), .row 27 3 (B.helds.map (·.1)).length (.shal (cellsL kcL (sortBy cfK (B.helds.map (·.1))))) [])] := by
  have c1 := keysK_c
  have c2 := sortedK_c (mapT kidK heldW B.helds) (L := ents heldW B.helds) (rs := B.helds.map (·.1)) (fun b v S w h => h.2) (by unfold ents; rw [List.map_map]; rfl) (by unfold ents; rw [List.length_map]; exact hlen)
  exact callOK_run 400 [hC 3 4 c1, hC 3 5 c2] (by kernel_rfl) (by kernel_rfl)
end Go.Proofs.YtlekbdpdlalhbaaGreat
end
section
namespace Go.Proofs.YtlekbdpdlalhbaaGreat
set_option maxRecDepth 100000
open Go.RowKit Go.Lib Go.Tk Go.Shelf Go.Vc Go.Sx Go.Maps
set_option linter.unusedVariables false
set_option linter.unusedSimpArgs false
def tidR (l : List Tid) : SC := .row 25 2 l.length (.shal (cellsL tcL l)) []
def kidR (l : List Kid) : SC := .row 27 3 l.length (.shal (cellsL kcL l)) []
def serials (n : Nat) : List Int := (List.range n).map fun i : Nat => (i : Int) + 1
theorem serials_sorted (n : Nat) : sortBy cmpI (serials n) = serials n := by
  refine sortBy_self swoI totI ?_
  unfold serials
  rw [List.pairwise_map]
  refine List.Pairwise.imp ?_ (List.pairwise_lt_range (n := n))
  intro a b h
  rw [ltI]
  simp
  omega
theorem docs_tids {B : BookV} (hb : BookOk B) : B.docs.map (·.t) = (serials B.docs.length).map (Tid.mk B.self) := by
  unfold serials
  rw [List.map_map]
  refine List.ext_getElem? fun i => ?_
  rw [List.getElem?_map, List.getElem?_map]
  by_cases h : i < B.docs.length
  · rw [List.getElem?_eq_getElem h, List.getElem?_range h]
    have := hb.docs i _ (List.getElem?_eq_getElem h)
    simp only [Option.map_some, Function.comp, this]
  · rw [List.getElem?_eq_none (by omega), List.getElem?_eq_none (by rw [List.length_range]; omega)]; rfl
theorem tickets_c {B : BookV} (hb : BookOk B) : CallOK Tryz.prog TicketsF [.ptr 0 0 0] [] (bkC B) (.raw 1 0) (bkC B ++ [((1, 0), tidR (B.docs.map (·.t)))]) := by
  refine shut (bkX fun L hL => ?_) rfl rfl rfl rfl
  have hlen : L.length = B.docs.length := by rw [← hL, List.length_map]
  have h := tickets_w (docsF L) B (L := ents docW (docKV L)) (c := B.self) (rs := serials B.docs.length) docsG_at (by
    rw [← docs_tids hb, ← hL]
    unfold ents docKV
    simp only [List.map_map]; rfl) (by have := hb.many; simp only [ents, docKV, List.length_map]; omega)
  rw [serials_sorted, ← docs_tids hb] at h
  have hl : (serials B.docs.length).length = (B.docs.map (·.t)).length := by unfold serials; simp
  rw [hl] at h
  exact h.of_rd.post_mono fun ε R w hM => by
    have hM : Mem (_ :: docsF L (ε 0 1).1 (ε 0 1).2 :: _) w := hM
    have h1 := hM.front 1 rfl
    have h2 : Mem (docsX B.docs (ε 0 1).1 (ε 0 1).2 :: _) w := Mem.in_ex ⟨L, hL⟩ h1
    exact h2.front 1 rfl
/-- the keys of others' coupons, in order -/
def keysL (B : BookV) : List Kid := sortBy cfK (B.helds.map (·.1))
theorem keysL_len (B : BookV) : (keysL B).length = B.helds.length := by unfold keysL; rw [(sortBy_perm _ _).length_eq, List.length_map]
theorem keys_c {B : BookV} (hlen : B.helds.length ≤ 1000000000) : CallOK Tryz.prog KeysF [.ptr 0 0 0] [] (bkC B) (.raw 1 0) (bkC B ++ [((1, 0), kidR (keysL B))]) := by
  refine shut ?_ rfl rfl rfl rfl
  have h := keys_w (docsX B.docs) B hlen
  have hl : (B.helds.map (·.1)).length = (keysL B).length := by rw [keysL_len, List.length_map]
  rw [hl] at h
  exact h.of_rd
end Go.Proofs.YtlekbdpdlalhbaaGreat
end
section
namespace Go.Proofs.YtlekbdpdlalhbaaGreat
open Go.RowKit Go.Lib Go.Tk Go.WideShapes Go.Joins Go.ChangeShapes

structure SaleW (s : SaleV) : Prop where
  name : s.name.size ≤ maxLen
  legs : ∀ l ∈ s.legs, LegOk l
  taxes : ∀ t ∈ s.taxes, TaxOk t
  fare : -9223372036854775808 ≤ s.fare ∧ s.fare ≤ 9223372036854775807
  pen : -9223372036854775808 ≤ s.pen ∧ s.pen ≤ 9223372036854775807
  nl : s.legs.length ≤ maxLen
  nt : s.taxes.length ≤ maxLen
theorem SaleW.small {s : SaleV} (h : SaleW s) (h1 : s.legs.length ≤ 1000) (h2 : s.taxes.length ≤ 1000) : SaleOk s := ⟨h.name, h.legs, h.taxes, h.fare, h.pen, h1, h2⟩

theorem wfi64 {a : Int} (h : (Lit.int .i64 a).wf = true) : -9223372036854775808 ≤ a ∧ a ≤ 9223372036854775807 := by
  simpa [Lit.wf, IntKind.min, IntKind.max, IntKind.signed, IntKind.bits] using h
theorem wfu8 {a : Int} (h : (Lit.int .u8 a).wf = true) : 0 ≤ a ∧ a ≤ 255 := by
  simpa [Lit.wf, IntKind.min, IntKind.max, IntKind.signed, IntKind.bits] using h
theorem wfu16 {a : Int} (h : (Lit.int .u16 a).wf = true) : 0 ≤ a ∧ a ≤ 65535 := by
  simpa [Lit.wf, IntKind.min, IntKind.max, IntKind.signed, IntKind.bits] using h
theorem wfu32 {a : Int} (h : (Lit.int .u32 a).wf = true) : 0 ≤ a ∧ a ≤ 4294967295 := by
  simpa [Lit.wf, IntKind.min, IntKind.max, IntKind.signed, IntKind.bits] using h
theorem wfu64 {a : Int} (h : (Lit.int .u64 a).wf = true) : 0 ≤ a ∧ a ≤ 18446744073709551615 := by
  simpa [Lit.wf, IntKind.min, IntKind.max, IntKind.signed, IntKind.bits] using h

theorem len2 {cs : List Value} (h : cs.length = 2) : ∃ a b, cs = [a, b] := by
  match cs, h with
  | [a, b], _ => exact ⟨a, b, rfl⟩
theorem len3 {cs : List Value} (h : cs.length = 3) : ∃ a b c, cs = [a, b, c] := by
  match cs, h with
  | [a, b, c], _ => exact ⟨a, b, c, rfl⟩
theorem len5 {cs : List Value} (h : cs.length = 5) : ∃ a b c d e, cs = [a, b, c, d, e] := by
  match cs, h with
  | [a, b, c, d, e], _ => exact ⟨a, b, c, d, e, rfl⟩

variable {H : Type} {enc : TypeId × Value → H} {w : World} {base : Nat} {spare : Nat → Bool} {held : Bool}

set_option maxRecDepth 100000 in
theorem agg_cells {t : TypeId} {fs : Array Field} {r : Reach} {b0 : Nat} {v : Value} {d : DataW H} {p : List MemPlace} (hs : Tryz.prog.underlying t = some (.struct fs)) (hv : Value.okWide Tryz.prog w r b0 t v) (h : DataW.Trod enc Tryz.prog w base spare held t v d p) :
    ∃ cs : List Value, v = .agg cs.toArray ∧ cs.length = Tryz.prog.cellsOf t ∧ ∃ n, ∀ f ∈ fs.toList, ∃ y, DataW.trod enc Tryz.prog w base spare held n f.type ((cs.drop f.offset).take (Tryz.prog.cellsOf f.type)) = some y := by
  obtain ⟨cs, rfl, hsz⟩ := okWide_struct hs hv
  obtain ⟨fuel, hf⟩ := h
  obtain ⟨h1, n, h2⟩ := struct_fields hs hf
  exact ⟨cs.toList, by simp, h1, n, h2⟩

set_option maxRecDepth 100000 in
theorem leg_cells {n : Nat} {cs : List Value} {y : DataW H × List MemPlace} (hl : cs.length = 3) (h : DataW.trod enc Tryz.prog w base spare held n 31 cs = some y) : ∃ l : Leg, encLeg l = cs ∧ LegOk l := by
  obtain ⟨_, m, hf⟩ := struct_fields Tryz.underlying31 h
  obtain ⟨c0, c1, c2, rfl⟩ := len3 hl
  simp only [List.forall_mem_cons] at hf
  obtain ⟨⟨y0, h0⟩, ⟨y1, h1⟩, ⟨y2, h2⟩, -⟩ := hf
  obtain ⟨a0, e0, w0⟩ := int_cell Tryz.underlying5 h0
  obtain ⟨a1, e1, w1⟩ := int_cell Tryz.underlying28 h1
  obtain ⟨a2, e2, w2⟩ := int_cell Tryz.underlying29 h2
  have f0 : c0 = .int .u8 a0 := by simpa [show Tryz.prog.cellsOf 5 = 1 by kernel_rfl] using e0
  have f1 : c1 = .int .u16 a1 := by simpa [show Tryz.prog.cellsOf 28 = 1 by kernel_rfl] using e1
  have f2 : c2 = .int .u32 a2 := by simpa [show Tryz.prog.cellsOf 29 = 1 by kernel_rfl] using e2
  exact ⟨⟨a0, a1, a2⟩, by rw [f0, f1, f2]; rfl, wfu8 w0, wfu16 w1, wfu32 w2⟩
set_option maxRecDepth 100000 in
theorem tax_cells {n : Nat} {cs : List Value} {y : DataW H × List MemPlace} (hl : cs.length = 2) (h : DataW.trod enc Tryz.prog w base spare held n 214 cs = some y) : ∃ l : Tax, encTax l = cs ∧ TaxOk l := by
  obtain ⟨_, m, hf⟩ := struct_fields Tryz.underlying214 h
  obtain ⟨c0, c1, rfl⟩ := len2 hl
  simp only [List.forall_mem_cons] at hf
  obtain ⟨⟨y0, h0⟩, ⟨y1, h1⟩, -⟩ := hf
  obtain ⟨a0, e0, w0⟩ := string_cell Tryz.underlying9 h0
  obtain ⟨a1, e1, w1⟩ := int_cell Tryz.underlying2 h1
  have f0 : c0 = .string a0 := by simpa [show Tryz.prog.cellsOf 9 = 1 by kernel_rfl] using e0
  have f1 : c1 = .int .i64 a1 := by simpa [show Tryz.prog.cellsOf 2 = 1 by kernel_rfl] using e1
  exact ⟨⟨a0, a1⟩, by rw [f0, f1]; rfl, w0, wfi64 w1⟩

theorem legs_cell {n : Nat} {v : Value} {y : DataW H × List MemPlace} (h : DataW.trod enc Tryz.prog w base spare held n 56 [v] = some y) :
    ∃ (a : Option Addr) (l : List Leg) (c : Nat), v = .slice a l.length c ∧ Row w a (cellsL encLeg l) ∧ (a = none → c = 0) ∧ l.length ≤ maxLen ∧ ∀ x ∈ l, LegOk x := by
  obtain ⟨a, len, cap, rows, rfl, hlen, hrows, hr, hn, hm, _⟩ := slice_rows (fun cs => ∃ l : Leg, encLeg l = cs ∧ LegOk l) Tryz.underlying56 (show Tryz.prog.cellsOf 31 = 3 by kernel_rfl) (by decide) (fun n cs y hl h => leg_cells hl h) h
  obtain ⟨l, hl⟩ := listOf (enc := fun x : { x : Leg // LegOk x } => encLeg x.1) (Q := fun cs => ∃ l : Leg, encLeg l = cs ∧ LegOk l) (fun r ⟨x, hx, hk⟩ => ⟨⟨x, hk⟩, hx⟩) rows (fun r hr => (hrows r hr).2)
  have hl2 : (l.map (·.1)).map encLeg = rows := by rw [List.map_map]; exact hl
  have hl3 : (l.map (·.1)).length = len := by rw [← hlen, ← hl2]; simp
  refine ⟨a, l.map (·.1), cap, by rw [hl3], ?_, hn, by rw [hl3]; exact hm, fun x hx => ?_⟩
  · unfold cellsL; rw [hl2]; exact hr
  · obtain ⟨z, _, rfl⟩ := List.mem_map.1 hx; exact z.2
theorem taxes_cell {n : Nat} {v : Value} {y : DataW H × List MemPlace} (h : DataW.trod enc Tryz.prog w base spare held n 57 [v] = some y) :
    ∃ (a : Option Addr) (l : List Tax) (c : Nat), v = .slice a l.length c ∧ Row w a (cellsL encTax l) ∧ (a = none → c = 0) ∧ l.length ≤ maxLen ∧ ∀ x ∈ l, TaxOk x := by
  obtain ⟨a, len, cap, rows, rfl, hlen, hrows, hr, hn, hm, _⟩ := slice_rows (fun cs => ∃ l : Tax, encTax l = cs ∧ TaxOk l) Tryz.underlying57 (show Tryz.prog.cellsOf 214 = 2 by kernel_rfl) (by decide) (fun n cs y hl h => tax_cells hl h) h
  obtain ⟨l, hl⟩ := listOf (enc := fun x : { x : Tax // TaxOk x } => encTax x.1) (Q := fun cs => ∃ l : Tax, encTax l = cs ∧ TaxOk l) (fun r ⟨x, hx, hk⟩ => ⟨⟨x, hk⟩, hx⟩) rows (fun r hr => (hrows r hr).2)
  have hl2 : (l.map (·.1)).map encTax = rows := by rw [List.map_map]; exact hl
  have hl3 : (l.map (·.1)).length = len := by rw [← hlen, ← hl2]; simp
  refine ⟨a, l.map (·.1), cap, by rw [hl3], ?_, hn, by rw [hl3]; exact hm, fun x hx => ?_⟩
  · unfold cellsL; rw [hl2]; exact hr
  · obtain ⟨z, _, rfl⟩ := List.mem_map.1 hx; exact z.2

set_option maxRecDepth 100000 in
theorem open_sale {r : Reach} {b0 : Nat} {v : Value} {d : DataW H} {p : List MemPlace} (hv : Value.okWide Tryz.prog w r b0 59 v) (h : DataW.Trod enc Tryz.prog w base spare held 59 v d p) :
    ∃ s A, v = saleAgg s A ∧ SaleAt w s A ∧ SaleW s := by
  obtain ⟨cs, rfl, hl, m, hf⟩ := agg_cells Tryz.underlying59 hv h
  rw [show Tryz.prog.cellsOf 59 = 5 by kernel_rfl] at hl
  obtain ⟨c0, c1, c2, c3, c4, rfl⟩ := len5 hl
  simp only [List.forall_mem_cons] at hf
  obtain ⟨⟨y0, h0⟩, ⟨y1, h1⟩, ⟨y2, h2⟩, ⟨y3, h3⟩, ⟨y4, h4⟩, -⟩ := hf
  obtain ⟨a0, e0, w0⟩ := string_cell Tryz.underlying9 h0
  have h1' : DataW.trod enc Tryz.prog w base spare held m 56 [c1] = some y1 := by simpa [show Tryz.prog.cellsOf 56 = 1 by kernel_rfl] using h1
  obtain ⟨a1, l1, k1, e1, r1, n1, m1, o1⟩ := legs_cell h1'
  obtain ⟨a2, e2, w2⟩ := int_cell Tryz.underlying2 h2
  have h3' : DataW.trod enc Tryz.prog w base spare held m 57 [c3] = some y3 := by simpa [show Tryz.prog.cellsOf 57 = 1 by kernel_rfl] using h3
  obtain ⟨a3, l3, k3, e3, r3, n3, m3, o3⟩ := taxes_cell h3'
  obtain ⟨a4, e4, w4⟩ := int_cell Tryz.underlying2 h4
  have f0 : c0 = .string a0 := by simpa [show Tryz.prog.cellsOf 9 = 1 by kernel_rfl] using e0
  have f2 : c2 = .int .i64 a2 := by simpa [show Tryz.prog.cellsOf 2 = 1 by kernel_rfl] using e2
  have f4 : c4 = .int .i64 a4 := by simpa [show Tryz.prog.cellsOf 2 = 1 by kernel_rfl] using e4
  exact ⟨⟨a0, l1, a2, l3, a4⟩, ⟨a1, k1, a3, k3⟩, by rw [f0, e1, f2, e3, f4]; rfl, ⟨r1, r3, n1, n3⟩, ⟨w0, o1, o3, wfi64 w2, wfi64 w4, m1, m3⟩⟩

end Go.Proofs.YtlekbdpdlalhbaaGreat
end
section
namespace Go.Tk
set_option linter.unusedVariables false
set_option linter.unusedSimpArgs false
open Go.RowKit Go.Lib Go.WideShapes

variable {H : Type} {enc : TypeId × Value → H} {P : Program} {w : World} {base : Nat} {spare : Nat → Bool} {held : Bool}

/-- the types of a type's cells, in order -/
def flatF (P : Program) (rec : TypeId → Option (List TypeId)) (stop : Nat) : List Field → Nat → Option (List TypeId)
  | [], o => if o = stop then some [] else none
  | fd :: fs, o => if fd.offset = o then (rec fd.type).bind fun ks => (flatF P rec stop fs (o + P.cellsOf fd.type)).map fun r => ks ++ r else none
def flatT (P : Program) : Nat → TypeId → Option (List TypeId)
  | 0, _ => none
  | f + 1, t => match P.underlying t with
    | some (.struct fs) => flatF P (flatT P f) (P.cellsOf t) fs.toList 0
    | some (.array _ _) => none
    | some (.tuple _) => none
    | _ => if P.cellsOf t = 1 then some [t] else none

def FlatAs (enc : TypeId × Value → H) (P : Program) (w : World) (base : Nat) (spare : Nat → Bool) (held : Bool) : List TypeId → List Value → Prop
  | [], cs => cs = []
  | t :: ts, cs => ∃ v cs', cs = v :: cs' ∧ (∃ n y, DataW.trod enc P w base spare held n t [v] = some y) ∧ FlatAs enc P w base spare held ts cs'
theorem FlatAs.append : ∀ {ts us : List TypeId} {cs ds : List Value}, FlatAs enc P w base spare held ts cs → FlatAs enc P w base spare held us ds → FlatAs enc P w base spare held (ts ++ us) (cs ++ ds)
  | [], _, _, _, h, k => by cases h; exact k
  | _ :: _, _, _, _, ⟨v, cs', e, hv, h⟩, k => by subst e; exact ⟨v, _, rfl, hv, h.append k⟩

theorem flat_fields {rec : TypeId → Option (List TypeId)} {n : Nat} (cs : List Value)
    (ih : ∀ t ts, rec t = some ts → ∀ cs y, DataW.trod enc P w base spare held n t cs = some y → cs.length = P.cellsOf t → FlatAs enc P w base spare held ts cs) :
    ∀ (fs : List Field) (o : Nat) (ts : List TypeId), flatF P rec cs.length fs o = some ts → o ≤ cs.length →
      (∀ fd ∈ fs, ∃ y, DataW.trod enc P w base spare held n fd.type ((cs.drop fd.offset).take (P.cellsOf fd.type)) = some y ∧ fd.offset + P.cellsOf fd.type ≤ cs.length) → FlatAs enc P w base spare held ts (cs.drop o)
  | [], o, ts, h, ho, _ => by
    unfold flatF at h
    split at h
    · cases h; rename_i e; rw [e, List.drop_length]; rfl
    · cases h
  | fd :: fs, o, ts, h, ho, hf => by
    unfold flatF at h
    split at h
    case isFalse => cases h
    rename_i e
    cases hk : rec fd.type with
    | none => rw [hk] at h; cases h
    | some ks =>
      rw [hk] at h
      cases hr : flatF P rec cs.length fs (o + P.cellsOf fd.type) with
      | none => rw [hr] at h; cases h
      | some r =>
        rw [hr] at h
        cases h
        obtain ⟨y, hy, hle⟩ := hf fd List.mem_cons_self
        rw [e] at hy hle
        have h1 := ih fd.type ks hk _ y hy (by rw [List.length_take, List.length_drop]; omega)
        have h2 := flat_fields cs ih fs _ r hr hle (fun fd' hm => hf fd' (List.mem_cons_of_mem _ hm))
        have : cs.drop o = (cs.drop o).take (P.cellsOf fd.type) ++ cs.drop (o + P.cellsOf fd.type) := by
          rw [← List.drop_drop, List.take_append_drop]
        rw [this]
        exact h1.append h2

theorem flatF_room {rec : TypeId → Option (List TypeId)} {stop : Nat} : ∀ (fs : List Field) (o : Nat) (ts : List TypeId), flatF P rec stop fs o = some ts → o ≤ stop ∧ ∀ fd ∈ fs, fd.offset + P.cellsOf fd.type ≤ stop
  | [], o, ts, h => by
    unfold flatF at h
    split at h
    · rename_i e; exact ⟨by omega, by simp⟩
    · cases h
  | fd :: fs, o, ts, h => by
    unfold flatF at h
    split at h
    case isFalse => cases h
    rename_i e
    cases hk : rec fd.type with
    | none => rw [hk] at h; cases h
    | some ks =>
      rw [hk] at h
      cases hr : flatF P rec stop fs (o + P.cellsOf fd.type) with
      | none => rw [hr] at h; cases h
      | some r =>
        obtain ⟨h1, h2⟩ := flatF_room fs _ r hr
        refine ⟨by omega, fun f hf => ?_⟩
        rcases List.mem_cons.1 hf with rfl | hf
        · omega
        · exact h2 f hf

theorem flat_of : ∀ (f : Nat) (t : TypeId) (ts : List TypeId), flatT P f t = some ts → ∀ (n : Nat) (cs : List Value) y, DataW.trod enc P w base spare held n t cs = some y → cs.length = P.cellsOf t → FlatAs enc P w base spare held ts cs
  | 0, t, ts, h => by cases h
  | f + 1, t, ts, h => by
    intro n cs y hy hl
    unfold flatT at h
    split at h
    · rename_i fs hu
      obtain ⟨h1, m, h2⟩ := struct_fields hu hy
      obtain ⟨r1, r2⟩ := flatF_room fs.toList 0 ts h
      rw [← hl] at h r2
      have := flat_fields (n := m) cs (fun t' ts' ht cs' y' hy' hl' => flat_of f t' ts' ht m cs' y' hy' hl') fs.toList 0 ts h (Nat.zero_le _) (fun fd hm => by obtain ⟨y, hy⟩ := h2 fd hm; exact ⟨y, hy, r2 fd hm⟩)
      simpa using this
    · cases h
    · cases h
    · split at h
      · rename_i hc
        cases h
        rw [hc] at hl
        match cs, hl with
        | [v], _ => exact ⟨v, [], rfl, ⟨n, y, hy⟩, rfl⟩
      · cases h

/-- a value of struct type that came in, leaf by leaf -/
theorem flat_open {t : TypeId} {fs : Array Field} {r : Reach} {b0 : Nat} {v : Value} {d : DataW H} {p : List MemPlace} (f : Nat) {ts : List TypeId} (hs : P.underlying t = some (.struct fs)) (ht : flatT P f t = some ts) (hv : Value.okWide P w r b0 t v) (h : DataW.Trod enc P w base spare held t v d p) :
    ∃ cs : List Value, v = .agg cs.toArray ∧ FlatAs enc P w base spare held ts cs := by
  obtain ⟨cs, rfl, hsz⟩ := okWide_struct hs hv
  obtain ⟨fuel, hf⟩ := h
  exact ⟨cs.toList, by simp, flat_of f t ts ht fuel _ _ hf (by simpa using hsz)⟩

end Go.Tk
end
section
namespace Go.Proofs.YtlekbdpdlalhbaaGreat
set_option maxRecDepth 100000
open Go.RowKit Go.Lib Go.Tk Go.Shelf Go.Vc Go.Sx Go.WideShapes
set_option linter.unusedVariables false
set_option linter.unusedSimpArgs false

structure Act17 where
  d : Int
  t : Tid
  s : SaleV
  A : SaleA
def act17C (x : Act17) : List Value := [.int .i64 x.d, .int .u8 x.t.c, .int .u64 x.t.r, .string x.s.name, .slice x.A.la x.s.legs.length x.A.lc, .int .i64 x.s.fare, .slice x.A.ta x.s.taxes.length x.A.tc, .int .i64 x.s.pen]
def act17Z : Act17 := ⟨0, tid0, ⟨⟨#[]⟩, [], 0, [], 0⟩, ⟨none, 0, none, 0⟩⟩
structure Act17In (w : World) (x : Act17) : Prop where
  at_ : SaleAt w x.s x.A
  ok : SaleW x.s
  t : TidOk x.t
section
variable {H : Type} {enc : TypeId × Value → H} {w : World} {base : Nat} {spare : Nat → Bool} {held : Bool}
theorem act17_of {cs : List Value} (h : FlatAs enc Tryz.prog w base spare held [3, 5, 23, 9, 56, 2, 57, 2] cs) : ∃ x : Act17, act17C x = cs ∧ Act17In w x := by
  obtain ⟨v0, _, rfl, ⟨n0, y0, h0⟩, v1, _, rfl, ⟨n1, y1, h1⟩, v2, _, rfl, ⟨n2, y2, h2⟩, v3, _, rfl, ⟨n3, y3, h3⟩, v4, _, rfl, ⟨n4, y4, h4⟩, v5, _, rfl, ⟨n5, y5, h5⟩, v6, _, rfl, ⟨n6, y6, h6⟩, v7, _, rfl, ⟨n7, y7, h7⟩, rfl⟩ := h
  obtain ⟨a0, e0, w0⟩ := int_cell Tryz.underlying3 h0
  obtain ⟨a1, e1, w1⟩ := int_cell Tryz.underlying5 h1
  obtain ⟨a2, e2, w2⟩ := int_cell Tryz.underlying23 h2
  obtain ⟨a3, e3, w3⟩ := string_cell Tryz.underlying9 h3
  obtain ⟨a4, l4, c4, rfl, r4, i4, m4, o4⟩ := legs_cell h4
  obtain ⟨a5, e5, w5⟩ := int_cell Tryz.underlying2 h5
  obtain ⟨a6, l6, c6, rfl, r6, i6, m6, o6⟩ := taxes_cell h6
  obtain ⟨a7, e7, w7⟩ := int_cell Tryz.underlying2 h7
  cases e0; cases e1; cases e2; cases e3; cases e5; cases e7
  exact ⟨⟨a0, ⟨a1, a2⟩, ⟨a3, l4, a5, l6, a7⟩, ⟨a4, c4, a6, c6⟩⟩, rfl, ⟨r4, r6, i4, i6⟩, ⟨w3, o4, o6, wfi64 w5, wfi64 w7, m4, m6⟩, wfu8 w1, wfu64 w2⟩
theorem act17_flat : flatT Tryz.prog 6 100 = some [3, 5, 23, 9, 56, 2, 57, 2] := by kernel_rfl
theorem acts17_cell {n : Nat} {v : Value} {y : DataW H × List MemPlace} (h : DataW.trod enc Tryz.prog w base spare held n 97 [v] = some y) :
    ∃ (a : Option Addr) (l : List Act17) (c : Nat), v = .slice a l.length c ∧ Row w a (cellsL act17C l) ∧ (a = none → c = 0) ∧ l.length ≤ maxLen ∧ ∀ x ∈ l, Act17In w x := by
  obtain ⟨a, len, cap, rows, rfl, hlen, hrows, hr, hn, hm, _⟩ := slice_rows (fun cs => ∃ l : Act17, act17C l = cs ∧ Act17In w l) Tryz.underlying97 (show Tryz.prog.cellsOf 100 = 8 by kernel_rfl) (by decide)
    (fun n cs y hl h => act17_of (flat_of 6 _ _ act17_flat n cs y h (by rw [hl]; kernel_rfl))) h
  obtain ⟨l, hl⟩ := listOf (enc := fun x : { x : Act17 // Act17In w x } => act17C x.1) (Q := fun cs => ∃ l : Act17, act17C l = cs ∧ Act17In w l) (fun r ⟨x, hx, hk⟩ => ⟨⟨x, hk⟩, hx⟩) rows (fun r hr => (hrows r hr).2)
  have hl2 : (l.map (·.1)).map act17C = rows := by rw [List.map_map]; exact hl
  have hl3 : (l.map (·.1)).length = len := by rw [← hlen, ← hl2]; simp
  refine ⟨a, l.map (·.1), cap, by rw [hl3], ?_, hn, by rw [hl3]; exact hm, fun x hx => ?_⟩
  · unfold cellsL; rw [hl2]; exact hr
  · obtain ⟨z, _, rfl⟩ := List.mem_map.1 hx; exact z.2
def kidC (k : Kid) : List Value := [.int .u8 k.t.c, .int .u64 k.t.r, .int .u8 k.i]
theorem kid_of {cs : List Value} (h : FlatAs enc Tryz.prog w base spare held [5, 23, 5] cs) : ∃ x : Kid, kidC x = cs ∧ KidOk x := by
  obtain ⟨v0, _, rfl, ⟨n0, y0, h0⟩, v1, _, rfl, ⟨n1, y1, h1⟩, v2, _, rfl, ⟨n2, y2, h2⟩, rfl⟩ := h
  obtain ⟨a0, e0, w0⟩ := int_cell Tryz.underlying5 h0
  obtain ⟨a1, e1, w1⟩ := int_cell Tryz.underlying23 h1
  obtain ⟨a2, e2, w2⟩ := int_cell Tryz.underlying5 h2
  cases e0; cases e1; cases e2
  exact ⟨⟨⟨a0, a1⟩, a2⟩, rfl, ⟨wfu8 w0, wfu64 w1⟩, wfu8 w2⟩
theorem kid_flat : flatT Tryz.prog 6 27 = some [5, 23, 5] := by kernel_rfl
theorem kids_cell {n : Nat} {v : Value} {y : DataW H × List MemPlace} (h : DataW.trod enc Tryz.prog w base spare held n 78 [v] = some y) :
    ∃ (a : Option Addr) (l : List Kid) (c : Nat), v = .slice a l.length c ∧ Row w a (cellsL kidC l) ∧ (a = none → c = 0) ∧ l.length ≤ maxLen ∧ ∀ x ∈ l, KidOk x := by
  obtain ⟨a, len, cap, rows, rfl, hlen, hrows, hr, hn, hm, _⟩ := slice_rows (fun cs => ∃ l : Kid, kidC l = cs ∧ KidOk l) Tryz.underlying78 (show Tryz.prog.cellsOf 27 = 3 by kernel_rfl) (by decide)
    (fun n cs y hl h => kid_of (flat_of 6 _ _ kid_flat n cs y h (by rw [hl]; kernel_rfl))) h
  obtain ⟨l, hl⟩ := listOf (enc := fun x : { x : Kid // KidOk x } => kidC x.1) (Q := fun cs => ∃ l : Kid, kidC l = cs ∧ KidOk l) (fun r ⟨x, hx, hk⟩ => ⟨⟨x, hk⟩, hx⟩) rows (fun r hr => (hrows r hr).2)
  have hl2 : (l.map (·.1)).map kidC = rows := by rw [List.map_map]; exact hl
  have hl3 : (l.map (·.1)).length = len := by rw [← hlen, ← hl2]; simp
  refine ⟨a, l.map (·.1), cap, by rw [hl3], ?_, hn, by rw [hl3]; exact hm, fun x hx => ?_⟩
  · unfold cellsL; rw [hl2]; exact hr
  · obtain ⟨z, _, rfl⟩ := List.mem_map.1 hx; exact z.2
end
end Go.Proofs.YtlekbdpdlalhbaaGreat
end
