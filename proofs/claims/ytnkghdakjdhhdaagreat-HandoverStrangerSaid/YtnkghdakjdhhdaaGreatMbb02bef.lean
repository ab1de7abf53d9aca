/- Kk5, Kk6, Ky5, Ky6, EaP, EbW1, EbW2, EbW3, Lw16d. -/
import Derived.Test.YtnkghdakjdhhdaaGreatM6ae9300
import Derived.Test.YtnkghdakjdhhdaaGreatM33331ff
import Derived.Test.YtnkghdakjdhhdaaGreatM533403a
import Derived.Test.YtnkghdakjdhhdaaGreatM911b15a
import Derived.Test.YtnkghdakjdhhdaaGreatM79bafec
import Derived.Test.YtnkghdakjdhhdaaGreatM289763c
import Derived.Test.YtnkghdakjdhhdaaGreatMbdd92c6
import Derived.Test.YtnkghdakjdhhdaaGreatMd7779cc
section
namespace Go.Proofs.YtnkghdakjdhhdaaGreat
set_option maxRecDepth 100000
open Go.RowKit Go.Lib Go.Tk Go.Shelf Go.Maps Go.Sort
def ltK (x y : Kid) : Prop := x.t.c < y.t.c ∨ (x.t.c = y.t.c ∧ (x.t.r < y.t.r ∨ (x.t.r = y.t.r ∧ x.i < y.i)))
theorem lt_kid (x y : Kid) : (ltOf cfK x y = true) ↔ ltK x y := by
  unfold ltOf cfK orI ltK cmpI
  rcases Int.lt_trichotomy x.t.c y.t.c with h | h | h
  · have : ¬ y.t.c < x.t.c := by omega
    simp [h]
  · rw [h]
    rcases Int.lt_trichotomy x.t.r y.t.r with g | g | g
    · simp [g]
    · rw [g]
      rcases Int.lt_trichotomy x.i y.i with k | k | k
      · simp [k]
      · rw [k]; simp
      · have : ¬ x.i < y.i := by omega
        simp [k, this]
    · have a : ¬ x.t.r < y.t.r := by omega
      have b : ¬ x.t.r = y.t.r := by omega
      simp [g, a, b]
  · have a : ¬ x.t.c < y.t.c := by omega
    have b : ¬ x.t.c = y.t.c := by omega
    simp [h, a, b]
theorem lt_kid_no (x y : Kid) : (ltOf cfK x y = false) ↔ ¬ ltK x y := by
  rw [← lt_kid]
  cases ltOf cfK x y <;> simp
theorem swoK : SWO (ltOf cfK) where
  irrefl x := by rw [lt_kid_no]; unfold ltK; omega
  trans x y z h1 h2 := by rw [lt_kid] at *; unfold ltK at *; omega
  ntrans x y z h1 h2 := by rw [lt_kid_no] at *; unfold ltK at *; omega
theorem totK (x y : Kid) (h1 : ltOf cfK x y = false) (h2 : ltOf cfK y x = false) : x = y := by
  rw [lt_kid_no] at h1 h2
  unfold ltK at h1 h2
  obtain ⟨⟨a, b⟩, c⟩ := x
  obtain ⟨⟨d, e⟩, f⟩ := y
  simp only at h1 h2
  have e1 : a = d := by omega
  have e2 : b = e := by omega
  have e3 : c = f := by omega
  rw [e1, e2, e3]
theorem cmpK_lays (blk off size : Nat) (w : World) : CmpLays Tryz.prog 108 #[] kcL 3 cfK blk off size w := by
  intro m os dk _ x y
  refine (keys1_any x y _).mono ?_
  rintro e w' ⟨rfl, h⟩
  exact ⟨rfl, h⟩
end Go.Proofs.YtnkghdakjdhhdaaGreat
end
section
namespace Go.Proofs.YtnkghdakjdhhdaaGreat
set_option maxRecDepth 100000
open Go.RowKit Go.Lib Go.Tk Go.Shelf Go.Maps Go.Sort
theorem collectK_in (F : Fence) (n : Nat) (hF : F.fn 138) (hA : F.fn 168) (hro : F.round = none) (hn : 4 ≤ n) (gf : Nat) (lb : Array Value) (hFg : F.fn gf) (eg : ∀ args w, (callFunc gf args).run Tryz.prog w = .ok (.enter gf args) w)
    (S Sp : List Kid → Prop) (N : Nat) (hN : N ≤ 1000000000) (w w0 : World) (hb0 : Below w0.heap.size w0 w) (hseq : SeqStopsK F (n - 1 - 1) Tryz.prog gf lb encKy KeepsWalks S Sp N w0) :
    CallsIn F n Tryz.prog 138 #[.func (.func gf) #[] lb] w fun e w' => ∃ v ss, e = .returned v ∧ S ss ∧ w'.ownsRow w.heap.size 27 3 v ss.length (cellsL kcL ss) ∧ (v = .slice none 0 0 ↔ ss = []) ∧ Below w.heap.size w w' := by
  have h1 : 1 ≤ n := by omega
  have cA := appendK_in F (n - 1) hA hro (by omega) gf lb hFg eg S Sp N hN w w0 hb0 hseq
  refine callsIn_of_wp Tryz.func138 rfl hF ?_ hro
  simp only [Tryz.ntmps138, List.size_toArray, List.length_cons, List.length_nil, Nat.reduceAdd, Nat.reduceSub, Array.replicate_succ, Array.replicate_zero, List.push_toArray, List.append_toArray, List.nil_append, List.cons_append]
  gi_wp2_with (gi_at_call 168; refine cA.mono ?_; rintro e w' ⟨v, ss, rfl, hS, hrow, hnil, hb⟩)
  go_ret
  exact ⟨v, ss, rfl, hS, hrow, hnil, hb⟩
def SortedFK : Nat := 106
def Keys1F : Nat := 108
set_option maxHeartbeats 4000000 in
/-- a map's keys, sorted -/
theorem sortedK_any (Bn b : Nat) (L : List (Kid × Value)) (rs : List Kid) (hL : L.map (·.1) = rs) (w : World) (hm : MapAt kidK w b L) (hBn : w.cell? ⟨Bn, 0, none⟩ = some (.map (some b))) (hlen : L.length ≤ 1000000000) :
    Calls Tryz.prog SortedFK #[.func (.func KeysK1) #[] #[.pointer (some ⟨Bn, 0, none⟩)], .func (.func Keys1F) #[] #[]] w fun e w' => ∃ v, e = .returned v ∧ w'.ownsRow w.heap.size 27 3 v rs.length (cellsL kcL (sortBy cfK rs)) ∧ Below w.heap.size w w' := by
  refine (callsIn_wide (n := 8)).1 ?_
  have hbl : b < w.heap.size := hm.lt
  have hBl : Bn < w.heap.size := World.block_lt_of_cell? w _ hBn
  have hseq : SeqStopsK Fence.wide 5 Tryz.prog KeysK1 #[.pointer (some ⟨Bn, 0, none⟩)] encKy KeepsWalks (fun ys => ys.Perm (L.map (·.1))) (fun pre => ∃ rest, (pre ++ rest).Perm (L.map (·.1))) L.length w := fun l J Jx W hW hJ hJx hY h0 =>
    keysK1_in Fence.wide 5 trivial rfl (by omega) l Bn b L J Jx W hJ (hm.same (hW.block b hbl)) ((hW.cell (p := ⟨Bn, 0, none⟩) hBl).trans hBn) hY h0
  have cC := collectK_in Fence.wide 7 trivial trivial rfl (by omega) KeysK1 #[.pointer (some ⟨Bn, 0, none⟩)] trivial (enters_of Tryz.func140 (by kernel_rfl) rfl) _ _ L.length hlen w w (Below.refl _ _) hseq
  have hfC : Fence.wide.fn 138 := trivial
  have hfS : Fence.wide.fn 139 := trivial
  have hLL : L.length = rs.length := by have := congrArg List.length hL; simpa using this
  rw [hL] at cC
  clear hseq hm hBn hL
  unfold SortedFK
  refine callsIn_of_wp Tryz.func106 rfl trivial ?_ rfl
  simp only [Tryz.ntmps106, List.size_toArray, List.length_cons, List.length_nil, Nat.reduceAdd, Nat.reduceSub, Array.replicate_succ, Array.replicate_zero, List.push_toArray, List.append_toArray, List.nil_append, List.cons_append]
  gi_wp2_with (gi_at_call 138; refine cC.mono ?_; rintro e W ⟨v, ss, rfl, hS, hrow, hnil, hb⟩)
  have hsort : sortBy cfK ss = sortBy cfK rs := sortBy_eq swoK totK hS
  have hsl : ss.length = rs.length := hS.length_eq
  rw [hsl] at hrow
  rcases hrow.2 with ⟨rfl, hz⟩ | ⟨gb, cap, cur, rfl, hbase, hgb, r1, r2, r3, r4⟩
  · have hrs : rs = [] := List.eq_nil_of_length_eq_zero hz
    subst hrs
    have cN : CallsIn Fence.wide 7 Tryz.prog 139 #[.slice none 0 0, .func (.func Keys1F) #[] #[]] W fun e w' => e = .returned (.tuple #[]) ∧ w' = W := callsIn_wide.2 (AnyF.slices_SortFunc_none sortK none 0 _ W)
    gi_wp2_with (gi_at_call 139; refine cN.mono ?_; rintro e w' ⟨rfl, rfl⟩)
    go_ret
    refine ⟨_, rfl, ?_, hb⟩
    have hdn : ss = [] := List.eq_nil_of_length_eq_zero hsl
    subst hdn
    have e0 : sortBy cfK ([] : List Kid) = [] := List.eq_nil_of_length_eq_zero (sortBy_perm cfK []).length_eq
    rw [e0]
    exact hrow
  · have hda : ss.toArray.size = rs.length := by simpa using hsl
    have hH : HoldsK kcL 3 W gb 0 ss.toArray := holdsK_of_owns (enc := kcL) (k := 3) (fun _ => rfl) ss.toArray hda hrow
    have hgl : gb < W.heap.size := (Array.getElem?_eq_some_iff.1 hgb).1
    have cS : CallsIn Fence.wide 7 Tryz.prog 139 #[.slice (some ⟨gb, 0, none⟩) ss.toArray.size cap, .func (.func Keys1F) #[] #[]] W fun e w' => e = .returned (.tuple #[]) ∧ ∃ n os, w' = sortWorldK kcL 3 W gb 0 n (sortBy cfK ss).toArray os :=
      callsIn_wide.2 (AnyQ.slices_SortFunc_total sortK 3 Tryz.isAgg27 Tryz.sizeOf27 (kcL) (fun _ => rfl) (fun x v hv => by simp [kcL] at hv; rcases hv with rfl | rfl | rfl <;> rfl) cfK swoK Keys1F #[] gb 0 cap ss.toArray W (enters_of Tryz.func108 (by kernel_rfl) rfl) (cmpK_lays gb 0 _ W) hH hgl (by rw [hda]; omega) totK)
    rw [hda] at cS
    gi_wp2_with (gi_at_call 139; refine cS.mono ?_; rintro e w' ⟨rfl, nn, os, rfl⟩)
    go_ret
    refine ⟨_, rfl, ?_, ?_⟩
    · have := ownsRow_sortedK (m := nn) (os := os) (enc := kcL) (k := 3) (fun _ => rfl) (sortBy cfK ss).toArray (by have := (sortBy_perm cfK ss).length_eq; simpa [hsl] using this) _ hrow
      rw [← hsort]
      exact this
    · exact hb.grown (swk_grown ⟨nn, os, rfl⟩) hb.size (fun j hj => by cases hj; exact hbase)
end Go.Proofs.YtnkghdakjdhhdaaGreat
end
section
namespace Go.Proofs.YtnkghdakjdhhdaaGreat
set_option maxRecDepth 100000
open Go.RowKit Go.Lib Go.Tk Go.Shelf Go.Vc Go.Sx Go.Maps
set_option linter.unusedVariables false
set_option linter.unusedSimpArgs false
theorem mem_owns {cs : List Chunk} {w w' : World} (h : Mem cs w) (hb : Below w.heap.size w w') {E : TypeId} {size n : Nat} {v : Value} {xs : List Value} (ho : w'.ownsRow w.heap.size E size v n xs) : Mem (rowC E size v n xs :: cs) w' := by
  refine h.fresh hb (fun k => v.ownBlock = some k) ⟨fun g hg => hg, ho.1, ?_⟩ (fun k hk => ho.lt k hk)
  rcases ho.2 with h1 | ⟨g, cap, cur, hv, hbase, hgb, r1, r2, r3, r4⟩
  · exact .inl h1
  · exact .inr ⟨g, cap, cur, hv, ⟨E, (0, 0), (fun _ h => by cases h; rfl), hgb, noFz_none _⟩, r1, r2, r3, r4⟩
theorem sortedT_c (F : CF) {L : List (Tid × Value)} {c : Int} {rs : List Int} (hF : ∀ b v S w, (F b v).at_ S w → MapAt tidK w b L) (hL : L.map (·.1) = rs.map (Tid.mk c)) (hlen : L.length ≤ 1000000000) :
    CallOK Tryz.prog SortedFT [.fn (.func KeysT1) [] [.ptr 0 5 0], .fn (.func Tickets1) [] []] [((0, 1), .fam F)] [((0, 5), .box none [.map 0 1])] (.raw 1 0) [((0, 5), .box none [.map 0 1]), ((1, 0), .row 25 2 rs.length (.shal (cellsL tcL ((sortBy cmpI rs).map (Tid.mk c)))) [])] := by
  intro ε R w hM
  have hM : Mem (F (ε 0 1).1 (ε 0 1).2 :: boxE none (ε 0 5).1 #[.map (some (ε 0 1).1)] :: R) w := hM
  have hm : MapAt tidK w (ε 0 1).1 L := hM.of 0 rfl (fun S hS => hF _ _ _ _ hS)
  have hc : w.cell? ⟨(ε 0 5).1, 0, none⟩ = some (.map (some (ε 0 1).1)) := (hM.box 1 rfl).cell 0 rfl
  refine (sortedT_any (ε 0 5).1 (ε 0 1).1 L c rs hL w hm hc hlen).mono ?_
  rintro e w' ⟨v, rfl, hrow, hb⟩
  obtain ⟨va, vc, rfl, -, -, -⟩ := own_slice hrow
  have h1 := ((mem_owns hM hb hrow).front 2 rfl).front 2 rfl
  have e1 : ∀ x : Nat → Nat × Value, eset ε 1 x 1 = x := fun x => by simp [eset]
  have e0 : ∀ x : Nat → Nat × Value, eset ε 1 x 0 = ε 0 := fun x => eset_ne (by decide)
  refine ⟨fun _ => (0, .slice va rs.length vc), by simp only [SV.den]; rw [e1]; rfl, ?_⟩
  show Mem (F (eset ε 1 _ 0 1).1 (eset ε 1 _ 0 1).2 :: boxE none (eset ε 1 _ 0 5).1 #[.map (some (eset ε 1 _ 0 1).1)] :: rowC 25 2 (asSl (eset ε 1 _ 1 0).2) rs.length _ :: R) w'
  rw [e1, e0]
  exact h1
theorem sortedK_c (F : CF) {L : List (Kid × Value)} {rs : List Kid} (hF : ∀ b v S w, (F b v).at_ S w → MapAt kidK w b L) (hL : L.map (·.1) = rs) (hlen : L.length ≤ 1000000000) :
    CallOK Tryz.prog SortedFK [.fn (.func KeysK1) [] [.ptr 0 5 0], .fn (.func Keys1F) [] []] [((0, 3), .fam F)] [((0, 5), .box none [.map 0 3])] (.raw 1 0) [((0, 5), .box none [.map 0 3]), ((1, 0), .row 27 3 rs.length (.shal (cellsL kcL (sortBy cfK rs))) [])] := by
  intro ε R w hM
  have hM : Mem (F (ε 0 3).1 (ε 0 3).2 :: boxE none (ε 0 5).1 #[.map (some (ε 0 3).1)] :: R) w := hM
  have hm : MapAt kidK w (ε 0 3).1 L := hM.of 0 rfl (fun S hS => hF _ _ _ _ hS)
  have hc : w.cell? ⟨(ε 0 5).1, 0, none⟩ = some (.map (some (ε 0 3).1)) := (hM.box 1 rfl).cell 0 rfl
  refine (sortedK_any (ε 0 5).1 (ε 0 3).1 L rs hL w hm hc hlen).mono ?_
  rintro e w' ⟨v, rfl, hrow, hb⟩
  obtain ⟨va, vc, rfl, -, -, -⟩ := own_slice hrow
  have h1 := ((mem_owns hM hb hrow).front 2 rfl).front 2 rfl
  have e1 : ∀ x : Nat → Nat × Value, eset ε 1 x 1 = x := fun x => by simp [eset]
  have e0 : ∀ x : Nat → Nat × Value, eset ε 1 x 0 = ε 0 := fun x => eset_ne (by decide)
  refine ⟨fun _ => (0, .slice va rs.length vc), by simp only [SV.den]; rw [e1]; rfl, ?_⟩
  show Mem (F (eset ε 1 _ 0 3).1 (eset ε 1 _ 0 3).2 :: boxE none (eset ε 1 _ 0 5).1 #[.map (some (eset ε 1 _ 0 3).1)] :: rowC 27 3 (asSl (eset ε 1 _ 1 0).2) rs.length _ :: R) w'
  rw [e1, e0]
  exact h1
def KeysTF : Nat := 92
def KeysKF : Nat := 107
theorem keysT_c : CallOK Tryz.prog KeysTF [.map 0 1] [] [] (.fn (.func KeysT1) [] [.ptr 1 0 0]) [((1, 0), .box none [.map 0 1])] := callOK_run 400 [] (by kernel_rfl) (by kernel_rfl)
theorem keysK_c : CallOK Tryz.prog KeysKF [.map 0 3] [] [] (.fn (.func KeysK1) [] [.ptr 1 0 0]) [((1, 0), .box none [.map 0 3])] := callOK_run 400 [] (by kernel_rfl) (by kernel_rfl)
def TicketsF : Nat := 35
def KeysF : Nat := 48
theorem tickets_w (F : CF) (B : BookV) {L : List (Tid × Value)} {c : Int} {rs : List Int} (hF : ∀ b v S w, (F b v).at_ S w → MapAt tidK w b L) (hL : L.map (·.1) = rs.map (Tid.mk c)) (hlen : L.length ≤ 1000000000) :
    CallOK Tryz.prog TicketsF [.ptr 0 0 0] (bkH F B) [] (.raw 1 0) [((1, 0), .row 25 2 rs.length (.shal (cellsL tcL ((sortBy cmpI rs).map (Tid.mk c)))) [])] := by
  have c1 := keysT_c
  have c2 := sortedT_c F hF hL hlen
  exact callOK_run 400 [hC 3 4 c1, hC 3 5 c2] (by kernel_rfl) (by kernel_rfl)
theorem keys_w (F : CF) (B : BookV) (hlen : B.helds.length ≤ 1000000000) :
    CallOK Tryz.prog KeysF [.ptr 0 0 0] (bkH F B) [] (.raw 1 0) [((1, 0), .row 27 3 (B.helds.map (·.1)).length (.shal (cellsL kcL (sortBy cfK (B.helds.map (·.1))))) [])] := by
  have c1 := keysK_c
  have c2 := sortedK_c (mapT kidK heldW B.helds) (L := ents heldW B.helds) (rs := B.helds.map (·.1)) (fun b v S w h => h.2) (by unfold ents; rw [List.map_map]; rfl) (by unfold ents; rw [List.length_map]; exact hlen)
  exact callOK_run 400 [hC 3 4 c1, hC 3 5 c2] (by kernel_rfl) (by kernel_rfl)
end Go.Proofs.YtnkghdakjdhhdaaGreat
end
section
namespace Go.Proofs.YtnkghdakjdhhdaaGreat
set_option maxRecDepth 100000
open Go.RowKit Go.Lib Go.Tk Go.Shelf Go.Vc Go.Sx Go.Maps
set_option linter.unusedVariables false
set_option linter.unusedSimpArgs false
def tidR (l : List Tid) : SC := .row 25 2 l.length (.shal (cellsL tcL l)) []
def kidR (l : List Kid) : SC := .row 27 3 l.length (.shal (cellsL kcL l)) []
def serials (n : Nat) : List Int := (List.range n).map fun i : Nat => (i : Int) + 1
theorem serials_sorted (n : Nat) : sortBy cmpI (serials n) = serials n := by
  refine sortBy_self swoI totI ?_
  unfold serials
  rw [List.pairwise_map]
  refine List.Pairwise.imp ?_ (List.pairwise_lt_range (n := n))
  intro a b h
  rw [ltI]
  simp
  omega
theorem docs_tids {B : BookV} (hb : BookOk B) : B.docs.map (·.t) = (serials B.docs.length).map (Tid.mk B.self) := by
  unfold serials
  rw [List.map_map]
  refine List.ext_getElem? fun i => ?_
  rw [List.getElem?_map, List.getElem?_map]
  by_cases h : i < B.docs.length
  · rw [List.getElem?_eq_getElem h, List.getElem?_range h]
    have := hb.docs i _ (List.getElem?_eq_getElem h)
    simp only [Option.map_some, Function.comp, this]
  · rw [List.getElem?_eq_none (by omega), List.getElem?_eq_none (by rw [List.length_range]; omega)]; rfl
theorem tickets_c {B : BookV} (hb : BookOk B) : CallOK Tryz.prog TicketsF [.ptr 0 0 0] [] (bkC B) (.raw 1 0) (bkC B ++ [((1, 0), tidR (B.docs.map (·.t)))]) := by
  refine shut (bkX fun L hL => ?_) rfl rfl rfl rfl
  have hlen : L.length = B.docs.length := by rw [← hL, List.length_map]
  have h := tickets_w (docsF L) B (L := ents docW (docKV L)) (c := B.self) (rs := serials B.docs.length) docsG_at (by
    rw [← docs_tids hb, ← hL]
    unfold ents docKV
    simp only [List.map_map]; rfl) (by have := hb.many; simp only [ents, docKV, List.length_map]; omega)
  rw [serials_sorted, ← docs_tids hb] at h
  have hl : (serials B.docs.length).length = (B.docs.map (·.t)).length := by unfold serials; simp
  rw [hl] at h
  exact h.of_rd.post_mono fun ε R w hM => by
    have hM : Mem (_ :: docsF L (ε 0 1).1 (ε 0 1).2 :: _) w := hM
    have h1 := hM.front 1 rfl
    have h2 : Mem (docsX B.docs (ε 0 1).1 (ε 0 1).2 :: _) w := Mem.in_ex ⟨L, hL⟩ h1
    exact h2.front 1 rfl
/-- the keys of others' coupons, in order -/
def keysL (B : BookV) : List Kid := sortBy cfK (B.helds.map (·.1))
theorem keysL_len (B : BookV) : (keysL B).length = B.helds.length := by unfold keysL; rw [(sortBy_perm _ _).length_eq, List.length_map]
theorem keys_c {B : BookV} (hlen : B.helds.length ≤ 1000000000) : CallOK Tryz.prog KeysF [.ptr 0 0 0] [] (bkC B) (.raw 1 0) (bkC B ++ [((1, 0), kidR (keysL B))]) := by
  refine shut ?_ rfl rfl rfl rfl
  have h := keys_w (docsX B.docs) B hlen
  have hl : (B.helds.map (·.1)).length = (keysL B).length := by rw [keysL_len, List.length_map]
  rw [hl] at h
  exact h.of_rd
end Go.Proofs.YtnkghdakjdhhdaaGreat
end
section
namespace Go.Proofs.YtnkghdakjdhhdaaGreat
set_option maxRecDepth 100000
open Go.RowKit Go.Lib Go.Tk Go.Shelf Go.Vc Go.Sx
set_option linter.unusedVariables false
set_option linter.unusedSimpArgs false

/-! ### coupons -/
/-! ### what an agent is told -/
structure EL (B : BookV) : Prop where
  ex : ExOk B
  ks : KeysIn B
  lf : ∀ d ∈ B.docs, 0 ≤ d.left ∧ d.left ≤ 1125899906842624
  ne : ∀ d ∈ B.docs, coupL B d.t ≠ []
theorem newL_ne {B : BookV} {s : SaleV} (ok : SaleOk s) (hm : B.issE s = 0) : newL s ≠ [] := by
  obtain ⟨-, -, hsh, -⟩ := check_shape (issE_check hm)
  obtain ⟨hS, ha, l1, l4, f0, f1⟩ := shape_share ok hsh
  intro e
  have := newL_len s
  rw [e, shareV_len hS, ws_len] at this
  simp at this
  omega
theorem EL.issued {B : BookV} (h : EL B) {s : SaleV} (ok : SaleOk s) (hm : B.issE s = 0) : EL (B.issued s) := by
  have m := made_i ok hm
  refine ⟨h.ex.issued ok hm, h.ks.issued s, fun d hd => ?_, fun d hd => ?_⟩
  · rcases List.mem_append.1 (show d ∈ B.docs ++ [docMade B.nextT s] from hd) with hd | hd
    · exact h.lf d hd
    · rw [List.mem_singleton.1 hd]; exact ⟨Int.le_refl _, by show (0 : Int) ≤ _; decide⟩
  · rcases List.mem_append.1 (show d ∈ B.docs ++ [docMade B.nextT s] from hd) with hd | hd
    · rw [coupL_issued_ne (nextT_fresh h.ex.bk d hd)]; exact h.ne d hd
    · rw [List.mem_singleton.1 hd]
      show coupL (B.issued s) B.nextT ≠ []
      rw [coupL_issued (h.ks.next h.ex.bk) m.vl]; exact newL_ne ok hm
end Go.Proofs.YtnkghdakjdhhdaaGreat
end
section
namespace Go.Proofs.YtnkghdakjdhhdaaGreat
set_option maxRecDepth 100000
open Go.RowKit Go.Lib Go.Tk Go.Shelf Go.Vc Go.Sx
set_option linter.unusedVariables false
set_option linter.unusedSimpArgs false

end Go.Proofs.YtnkghdakjdhhdaaGreat
end
section
namespace Go.Proofs.YtnkghdakjdhhdaaGreat
set_option maxRecDepth 100000
open Go.RowKit Go.Lib Go.Tk Go.Shelf Go.Vc Go.Sx
set_option linter.unusedVariables false
set_option linter.unusedSimpArgs false

end Go.Proofs.YtnkghdakjdhhdaaGreat
end
section
namespace Go.Proofs.YtnkghdakjdhhdaaGreat
set_option maxRecDepth 100000
open Go.RowKit Go.Lib Go.Tk Go.Shelf Go.Vc Go.Sx
set_option linter.unusedVariables false
set_option linter.unusedSimpArgs false

theorem tid_nth {l : List Tid} {k : Nat} {t : Tid} (h : l[k]? = some t) : ∀ (ε : Env) (q : Nat) (v : SV), (tidS t)[q]? = some v → (cellsL tcL l)[k * 2 + q]? = some (v.den ε) :=
  cells_nth (enc := tcL) (encS := tidS) (fun _ _ => rfl) (fun _ => rfl) h
theorem tids_get {ds : List DocV} {k : Nat} {d : DocV} (h : ds[k]? = some d) : (ds.map (·.t))[k]? = some d.t := by rw [List.getElem?_map, h]; rfl
end Go.Proofs.YtnkghdakjdhhdaaGreat
end
section
namespace Go.Proofs.YtnkghdakjdhhdaaGreat
set_option maxRecDepth 100000
open Go.RowKit Go.Lib Go.Tk Go.Shelf Go.Vc Go.Sx
set_option linter.unusedVariables false
set_option linter.unusedSimpArgs false

def WakesF16 : Nat := 10
end Go.Proofs.YtnkghdakjdhhdaaGreat
end
