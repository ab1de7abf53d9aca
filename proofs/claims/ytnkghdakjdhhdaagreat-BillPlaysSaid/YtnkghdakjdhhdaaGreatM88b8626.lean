/- Kk5, Kk6, Ky5, Ky6, BsP. -/
import Derived.Test.YtnkghdakjdhhdaaGreatM6ae9300
import Derived.Test.YtnkghdakjdhhdaaGreatM33331ff
import Derived.Test.YtnkghdakjdhhdaaGreatMc817215
import Derived.Test.YtnkghdakjdhhdaaGreatM911b15a
import Derived.Test.YtnkghdakjdhhdaaGreatM421640f
import Derived.Test.YtnkghdakjdhhdaaGreatM3981284
set_option maxRecDepth 100000
set_option linter.unusedVariables false
set_option linter.unusedSimpArgs false
set_option linter.unusedSectionVars false
section
namespace Go.Proofs.YtnkghdakjdhhdaaGreat
open Go.RowKit Go.Lib Go.Tk Go.Shelf Go.Maps Go.Sort
def ltK (x y : Kid) : Prop := x.t.c < y.t.c ∨ (x.t.c = y.t.c ∧ (x.t.r < y.t.r ∨ (x.t.r = y.t.r ∧ x.i < y.i)))
theorem lt_kid (x y : Kid) : (ltOf cfK x y = true) ↔ ltK x y := by
  unfold ltOf cfK orI ltK cmpI
  rcases Int.lt_trichotomy x.t.c y.t.c with h | h | h
  · have : ¬ y.t.c < x.t.c := by omega
    simp [h]
  · rw [h]
    rcases Int.lt_trichotomy x.t.r y.t.r with g | g | g
    · simp [g]
    · rw [g]
      rcases Int.lt_trichotomy x.i y.i with k | k | k
      · simp [k]
      · rw [k]; simp
      · have : ¬ x.i < y.i := by omega
        simp [k, this]
    · have a : ¬ x.t.r < y.t.r := by omega
      have b : ¬ x.t.r = y.t.r := by omega
      simp [g, a, b]
  · have a : ¬ x.t.c < y.t.c := by omega
    have b : ¬ x.t.c = y.t.c := by omega
    simp [h, a, b]
theorem lt_kid_no (x y : Kid) : (ltOf cfK x y = false) ↔ ¬ ltK x y := by
  rw [← lt_kid]
  cases ltOf cfK x y <;> simp
theorem swoK : SWO (ltOf cfK) where
  irrefl x := by rw [lt_kid_no]; unfold ltK; omega
  trans x y z h1 h2 := by rw [lt_kid] at *; unfold ltK at *; omega
  ntrans x y z h1 h2 := by rw [lt_kid_no] at *; unfold ltK at *; omega
theorem totK (x y : Kid) (h1 : ltOf cfK x y = false) (h2 : ltOf cfK y x = false) : x = y := by
  rw [lt_kid_no] at h1 h2
  unfold ltK at h1 h2
  obtain ⟨⟨a, b⟩, c⟩ := x
  obtain ⟨⟨d, e⟩, f⟩ := y
  simp only at h1 h2
  have e1 : a = d := by omega
  have e2 : b = e := by omega
  have e3 : c = f := by omega
  rw [e1, e2, e3]
theorem cmpK_lays (blk off size : Nat) (w : World) : CmpLays Tryz.prog 108 #[] kcL 3 cfK blk off size w := by
  intro m os dk _ x y
  refine (keys1_any x y _).mono ?_
  rintro e w' ⟨rfl, h⟩
  exact ⟨rfl, h⟩
end Go.Proofs.YtnkghdakjdhhdaaGreat
end
section
namespace Go.Proofs.YtnkghdakjdhhdaaGreat
open Go.RowKit Go.Lib Go.Tk Go.Shelf Go.Maps Go.Sort
theorem collectK_in (F : Fence) (n : Nat) (hF : F.fn 138) (hA : F.fn 168) (hro : F.round = none) (hn : 4 ≤ n) (gf : Nat) (lb : Array Value) (hFg : F.fn gf) (eg : ∀ args w, (callFunc gf args).run Tryz.prog w = .ok (.enter gf args) w)
    (S Sp : List Kid → Prop) (N : Nat) (hN : N ≤ 1000000000) (w w0 : World) (hb0 : Below w0.heap.size w0 w) (hseq : SeqStopsK F (n - 1 - 1) Tryz.prog gf lb encKy KeepsWalks S Sp N w0) :
    CallsIn F n Tryz.prog 138 #[.func (.func gf) #[] lb] w fun e w' => ∃ v ss, e = .returned v ∧ S ss ∧ w'.ownsRow w.heap.size 27 3 v ss.length (cellsL kcL ss) ∧ (v = .slice none 0 0 ↔ ss = []) ∧ Below w.heap.size w w' := by
  have h1 : 1 ≤ n := by omega
  have cA := appendK_in F (n - 1) hA hro (by omega) gf lb hFg eg S Sp N hN w w0 hb0 hseq
  refine callsIn_of_wp Tryz.func138 rfl hF ?_ hro
  simp only [Tryz.ntmps138, List.size_toArray, List.length_cons, List.length_nil, Nat.reduceAdd, Nat.reduceSub, Array.replicate_succ, Array.replicate_zero, List.push_toArray, List.append_toArray, List.nil_append, List.cons_append]
  gi_wp2_with (gi_at_call 168; refine cA.mono ?_; rintro e w' ⟨v, ss, rfl, hS, hrow, hnil, hb⟩)
  go_ret
  exact ⟨v, ss, rfl, hS, hrow, hnil, hb⟩
def SortedFK : Nat := 106
def Keys1F : Nat := 108
set_option maxHeartbeats 4000000 in
theorem sortedK_any (Bn b : Nat) (L : List (Kid × Value)) (rs : List Kid) (hL : L.map (·.1) = rs) (w : World) (hm : MapAt kidK w b L) (hBn : w.cell? ⟨Bn, 0, none⟩ = some (.map (some b))) (hlen : L.length ≤ 1000000000) :
    Calls Tryz.prog SortedFK #[.func (.func KeysK1) #[] #[.pointer (some ⟨Bn, 0, none⟩)], .func (.func Keys1F) #[] #[]] w fun e w' => ∃ v, e = .returned v ∧ w'.ownsRow w.heap.size 27 3 v rs.length (cellsL kcL (sortBy cfK rs)) ∧ Below w.heap.size w w' := by
  refine (callsIn_wide (n := 8)).1 ?_
  have hbl : b < w.heap.size := hm.lt
  have hBl : Bn < w.heap.size := World.block_lt_of_cell? w _ hBn
  have hseq : SeqStopsK Fence.wide 5 Tryz.prog KeysK1 #[.pointer (some ⟨Bn, 0, none⟩)] encKy KeepsWalks (fun ys => ys.Perm (L.map (·.1))) (fun pre => ∃ rest, (pre ++ rest).Perm (L.map (·.1))) L.length w := fun l J Jx W hW hJ hJx hY h0 =>
    keysK1_in Fence.wide 5 trivial rfl (by omega) l Bn b L J Jx W hJ (hm.same (hW.block b hbl)) ((hW.cell (p := ⟨Bn, 0, none⟩) hBl).trans hBn) hY h0
  have cC := collectK_in Fence.wide 7 trivial trivial rfl (by omega) KeysK1 #[.pointer (some ⟨Bn, 0, none⟩)] trivial (enters_of Tryz.func140 (by kernel_rfl) rfl) _ _ L.length hlen w w (Below.refl _ _) hseq
  have hfC : Fence.wide.fn 138 := trivial
  have hfS : Fence.wide.fn 139 := trivial
  have hLL : L.length = rs.length := by have := congrArg List.length hL; simpa using this
  rw [hL] at cC
  clear hseq hm hBn hL
  unfold SortedFK
  refine callsIn_of_wp Tryz.func106 rfl trivial ?_ rfl
  simp only [Tryz.ntmps106, List.size_toArray, List.length_cons, List.length_nil, Nat.reduceAdd, Nat.reduceSub, Array.replicate_succ, Array.replicate_zero, List.push_toArray, List.append_toArray, List.nil_append, List.cons_append]
  gi_wp2_with (gi_at_call 138; refine cC.mono ?_; rintro e W ⟨v, ss, rfl, hS, hrow, hnil, hb⟩)
  have hsort : sortBy cfK ss = sortBy cfK rs := sortBy_eq swoK totK hS
  have hsl : ss.length = rs.length := hS.length_eq
  rw [hsl] at hrow
  rcases hrow.2 with ⟨rfl, hz⟩ | ⟨gb, cap, cur, rfl, hbase, hgb, r1, r2, r3, r4⟩
  · have hrs : rs = [] := List.eq_nil_of_length_eq_zero hz
    subst hrs
    have cN : CallsIn Fence.wide 7 Tryz.prog 139 #[.slice none 0 0, .func (.func Keys1F) #[] #[]] W fun e w' => e = .returned (.tuple #[]) ∧ w' = W := callsIn_wide.2 (AnyF.slices_SortFunc_none sortK none 0 _ W)
    gi_wp2_with (gi_at_call 139; refine cN.mono ?_; rintro e w' ⟨rfl, rfl⟩)
    go_ret
    refine ⟨_, rfl, ?_, hb⟩
    have hdn : ss = [] := List.eq_nil_of_length_eq_zero hsl
    subst hdn
    have e0 : sortBy cfK ([] : List Kid) = [] := List.eq_nil_of_length_eq_zero (sortBy_perm cfK []).length_eq
    rw [e0]
    exact hrow
  · have hda : ss.toArray.size = rs.length := by simpa using hsl
    have hH : HoldsK kcL 3 W gb 0 ss.toArray := holdsK_of_owns (enc := kcL) (k := 3) (fun _ => rfl) ss.toArray hda hrow
    have hgl : gb < W.heap.size := (Array.getElem?_eq_some_iff.1 hgb).1
    have cS : CallsIn Fence.wide 7 Tryz.prog 139 #[.slice (some ⟨gb, 0, none⟩) ss.toArray.size cap, .func (.func Keys1F) #[] #[]] W fun e w' => e = .returned (.tuple #[]) ∧ ∃ n os, w' = sortWorldK kcL 3 W gb 0 n (sortBy cfK ss).toArray os :=
      callsIn_wide.2 (AnyQ.slices_SortFunc_total sortK 3 Tryz.isAgg27 Tryz.sizeOf27 (kcL) (fun _ => rfl) (fun x v hv => by simp [kcL] at hv; rcases hv with rfl | rfl | rfl <;> rfl) cfK swoK Keys1F #[] gb 0 cap ss.toArray W (enters_of Tryz.func108 (by kernel_rfl) rfl) (cmpK_lays gb 0 _ W) hH hgl (by rw [hda]; omega) totK)
    rw [hda] at cS
    gi_wp2_with (gi_at_call 139; refine cS.mono ?_; rintro e w' ⟨rfl, nn, os, rfl⟩)
    go_ret
    refine ⟨_, rfl, ?_, ?_⟩
    · have := ownsRow_sortedK (m := nn) (os := os) (enc := kcL) (k := 3) (fun _ => rfl) (sortBy cfK ss).toArray (by have := (sortBy_perm cfK ss).length_eq; simpa [hsl] using this) _ hrow
      rw [← hsort]
      exact this
    · exact hb.grown (swk_grown ⟨nn, os, rfl⟩) hb.size (fun j hj => by cases hj; exact hbase)
end Go.Proofs.YtnkghdakjdhhdaaGreat
end
section
namespace Go.Proofs.YtnkghdakjdhhdaaGreat
open Go.RowKit Go.Lib Go.Tk Go.Shelf Go.Vc Go.Sx Go.Maps
theorem mem_owns {cs : List Chunk} {w w' : World} (h : Mem cs w) (hb : Below w.heap.size w w') {E : TypeId} {size n : Nat} {v : Value} {xs : List Value} (ho : w'.ownsRow w.heap.size E size v n xs) : Mem (rowC E size v n xs :: cs) w' := by
  refine h.fresh hb (fun k => v.ownBlock = some k) ⟨fun g hg => hg, ho.1, ?_⟩ (fun k hk => ho.lt k hk)
  rcases ho.2 with h1 | ⟨g, cap, cur, hv, hbase, hgb, r1, r2, r3, r4⟩
  · exact .inl h1
  · exact .inr ⟨g, cap, cur, hv, ⟨E, (0, 0), (fun _ h => by cases h; rfl), hgb, noFz_none _⟩, r1, r2, r3, r4⟩
theorem sortedT_c (F : CF) {L : List (Tid × Value)} {c : Int} {rs : List Int} (hF : ∀ b v S w, (F b v).at_ S w → MapAt tidK w b L) (hL : L.map (·.1) = rs.map (Tid.mk c)) (hlen : L.length ≤ 1000000000) :
    CallOK Tryz.prog SortedFT [.fn (.func KeysT1) [] [.ptr 0 5 0], .fn (.func Tickets1) [] []] [((0, 1), .fam F)] [((0, 5), .box none [.map 0 1])] (.raw 1 0) [((0, 5), .box none [.map 0 1]), ((1, 0), .row 25 2 rs.length (.shal (cellsL tcL ((sortBy cmpI rs).map (Tid.mk c)))) [])] := by
  intro ε R w hM
  have hM : Mem (F (ε 0 1).1 (ε 0 1).2 :: boxE none (ε 0 5).1 #[.map (some (ε 0 1).1)] :: R) w := hM
  have hm : MapAt tidK w (ε 0 1).1 L := hM.of 0 rfl (fun S hS => hF _ _ _ _ hS)
  have hc : w.cell? ⟨(ε 0 5).1, 0, none⟩ = some (.map (some (ε 0 1).1)) := (hM.box 1 rfl).cell 0 rfl
  refine (sortedT_any (ε 0 5).1 (ε 0 1).1 L c rs hL w hm hc hlen).mono ?_
  rintro e w' ⟨v, rfl, hrow, hb⟩
  obtain ⟨va, vc, rfl, -, -, -⟩ := own_slice hrow
  have h1 := ((mem_owns hM hb hrow).front 2 rfl).front 2 rfl
  have e1 : ∀ x : Nat → Nat × Value, eset ε 1 x 1 = x := fun x => by simp [eset]
  have e0 : ∀ x : Nat → Nat × Value, eset ε 1 x 0 = ε 0 := fun x => eset_ne (by decide)
  refine ⟨fun _ => (0, .slice va rs.length vc), by simp only [SV.den]; rw [e1]; rfl, ?_⟩
  show Mem (F (eset ε 1 _ 0 1).1 (eset ε 1 _ 0 1).2 :: boxE none (eset ε 1 _ 0 5).1 #[.map (some (eset ε 1 _ 0 1).1)] :: rowC 25 2 (asSl (eset ε 1 _ 1 0).2) rs.length _ :: R) w'
  rw [e1, e0]
  exact h1
theorem sortedK_c (F : CF) {L : List (Kid × Value)} {rs : List Kid} (hF : ∀ b v S w, (F b v).at_ S w → MapAt kidK w b L) (hL : L.map (·.1) = rs) (hlen : L.length ≤ 1000000000) :
    CallOK Tryz.prog SortedFK [.fn (.func KeysK1) [] [.ptr 0 5 0], .fn (.func Keys1F) [] []] [((0, 3), .fam F)] [((0, 5), .box none [.map 0 3])] (.raw 1 0) [((0, 5), .box none [.map 0 3]), ((1, 0), .row 27 3 rs.length (.shal (cellsL kcL (sortBy cfK rs))) [])] := by
  intro ε R w hM
  have hM : Mem (F (ε 0 3).1 (ε 0 3).2 :: boxE none (ε 0 5).1 #[.map (some (ε 0 3).1)] :: R) w := hM
  have hm : MapAt kidK w (ε 0 3).1 L := hM.of 0 rfl (fun S hS => hF _ _ _ _ hS)
  have hc : w.cell? ⟨(ε 0 5).1, 0, none⟩ = some (.map (some (ε 0 3).1)) := (hM.box 1 rfl).cell 0 rfl
  refine (sortedK_any (ε 0 5).1 (ε 0 3).1 L rs hL w hm hc hlen).mono ?_
  rintro e w' ⟨v, rfl, hrow, hb⟩
  obtain ⟨va, vc, rfl, -, -, -⟩ := own_slice hrow
  have h1 := ((mem_owns hM hb hrow).front 2 rfl).front 2 rfl
  have e1 : ∀ x : Nat → Nat × Value, eset ε 1 x 1 = x := fun x => by simp [eset]
  have e0 : ∀ x : Nat → Nat × Value, eset ε 1 x 0 = ε 0 := fun x => eset_ne (by decide)
  refine ⟨fun _ => (0, .slice va rs.length vc), by simp only [SV.den]; rw [e1]; rfl, ?_⟩
  show Mem (F (eset ε 1 _ 0 3).1 (eset ε 1 _ 0 3).2 :: boxE none (eset ε 1 _ 0 5).1 #[.map (some (eset ε 1 _ 0 3).1)] :: rowC 27 3 (asSl (eset ε 1 _ 1 0).2) rs.length _ :: R) w'
  rw [e1, e0]
  exact h1
def KeysTF : Nat := 92
def KeysKF : Nat := 107
theorem keysT_c : CallOK Tryz.prog KeysTF [.map 0 1] [] [] (.fn (.func KeysT1) [] [.ptr 1 0 0]) [((1, 0), .box none [.map 0 1])] := callOK_run 400 [] (by kernel_rfl) (by kernel_rfl)
theorem keysK_c : CallOK Tryz.prog KeysKF [.map 0 3] [] [] (.fn (.func KeysK1) [] [.ptr 1 0 0]) [((1, 0), .box none [.map 0 3])] := callOK_run 400 [] (by kernel_rfl) (by kernel_rfl)
def TicketsF : Nat := 35
def KeysF : Nat := 48
theorem tickets_w (F : CF) (B : BookV) {L : List (Tid × Value)} {c : Int} {rs : List Int} (hF : ∀ b v S w, (F b v).at_ S w → MapAt tidK w b L) (hL : L.map (·.1) = rs.map (Tid.mk c)) (hlen : L.length ≤ 1000000000) :
    CallOK Tryz.prog TicketsF [.ptr 0 0 0] (bkH F B) [] (.raw 1 0) [((1, 0), .row 25 2 rs.length (.shal (cellsL tcL ((sortBy cmpI rs).map (Tid.mk c)))) [])] := by
  have c1 := keysT_c
  have c2 := sortedT_c F hF hL hlen
  exact callOK_run 400 [hC 3 4 c1, hC 3 5 c2] (by kernel_rfl) (by kernel_rfl)
theorem keys_w (F : CF) (B : BookV) (hlen : B.helds.length ≤ 1000000000) :
    CallOK Tryz.prog KeysF [.ptr 0 0 0] (bkH F B) [] (.raw 1 0) [((1, 0), .row 27 3 (B.helds.map (·.1)).length (.shal (cellsL kcL (sortBy cfK (B.helds.map (·.1))))) [])] := by
  have c1 := keysK_c
  have c2 := sortedK_c (mapT kidK heldW B.helds) (L := ents heldW B.helds) (rs := B.helds.map (·.1)) (fun b v S w h => h.2) (by unfold ents; rw [List.map_map]; rfl) (by unfold ents; rw [List.length_map]; exact hlen)
  exact callOK_run 400 [hC 3 4 c1, hC 3 5 c2] (by kernel_rfl) (by kernel_rfl)
end Go.Proofs.YtnkghdakjdhhdaaGreat
end
section
namespace Go.Proofs.YtnkghdakjdhhdaaGreat
open Go.RowKit Go.Lib Go.Tk Go.Shelf Go.Vc Go.Sx Go.Maps
def tidR (l : List Tid) : SC := .row 25 2 l.length (.shal (cellsL tcL l)) []
def kidR (l : List Kid) : SC := .row 27 3 l.length (.shal (cellsL kcL l)) []
def serials (n : Nat) : List Int := (List.range n).map fun i : Nat => (i : Int) + 1
theorem serials_sorted (n : Nat) : sortBy cmpI (serials n) = serials n := by
  refine sortBy_self swoI totI ?_
  unfold serials
  rw [List.pairwise_map]
  refine List.Pairwise.imp ?_ (List.pairwise_lt_range (n := n))
  intro a b h
  rw [ltI]
  simp
  omega
theorem docs_tids {B : BookV} (hb : BookOk B) : B.docs.map (·.t) = (serials B.docs.length).map (Tid.mk B.self) := by
  unfold serials
  rw [List.map_map]
  refine List.ext_getElem? fun i => ?_
  rw [List.getElem?_map, List.getElem?_map]
  by_cases h : i < B.docs.length
  · rw [List.getElem?_eq_getElem h, List.getElem?_range h]
    have := hb.docs i _ (List.getElem?_eq_getElem h)
    simp only [Option.map_some, Function.comp, this]
  · rw [List.getElem?_eq_none (by omega), List.getElem?_eq_none (by rw [List.length_range]; omega)]; rfl
theorem tickets_c {B : BookV} (hb : BookOk B) : CallOK Tryz.prog TicketsF [.ptr 0 0 0] [] (bkC B) (.raw 1 0) (bkC B ++ [((1, 0), tidR (B.docs.map (·.t)))]) := by
  refine shut (bkX fun L hL => ?_) rfl rfl rfl rfl
  have hlen : L.length = B.docs.length := by rw [← hL, List.length_map]
  have h := tickets_w (docsF L) B (L := ents docW (docKV L)) (c := B.self) (rs := serials B.docs.length) docsG_at (by
    rw [← docs_tids hb, ← hL]
    unfold ents docKV
    simp only [List.map_map]; rfl) (by have := hb.many; simp only [ents, docKV, List.length_map]; omega)
  rw [serials_sorted, ← docs_tids hb] at h
  have hl : (serials B.docs.length).length = (B.docs.map (·.t)).length := by unfold serials; simp
  rw [hl] at h
  exact h.of_rd.post_mono fun ε R w hM => by
    have hM : Mem (_ :: docsF L (ε 0 1).1 (ε 0 1).2 :: _) w := hM
    have h1 := hM.front 1 rfl
    have h2 : Mem (docsX B.docs (ε 0 1).1 (ε 0 1).2 :: _) w := Mem.in_ex ⟨L, hL⟩ h1
    exact h2.front 1 rfl
def keysL (B : BookV) : List Kid := sortBy cfK (B.helds.map (·.1))
theorem keysL_len (B : BookV) : (keysL B).length = B.helds.length := by unfold keysL; rw [(sortBy_perm _ _).length_eq, List.length_map]
theorem keys_c {B : BookV} (hlen : B.helds.length ≤ 1000000000) : CallOK Tryz.prog KeysF [.ptr 0 0 0] [] (bkC B) (.raw 1 0) (bkC B ++ [((1, 0), kidR (keysL B))]) := by
  refine shut ?_ rfl rfl rfl rfl
  have h := keys_w (docsX B.docs) B hlen
  have hl : (B.helds.map (·.1)).length = (keysL B).length := by rw [keysL_len, List.length_map]
  rw [hl] at h
  exact h.of_rd
end Go.Proofs.YtnkghdakjdhhdaaGreat
end
section
namespace Go.Proofs.YtnkghdakjdhhdaaGreat
open Go.RowKit Go.Lib Go.Tk Go.Shelf Go.Vc Go.Sx
def StI (s : Int) : Prop := 0 ≤ s ∧ s ≤ 255
structure BStay (y z : OwnV) : Prop where
  away : z.away = y.away
  dst : z.dst = y.dst
  v : z.k.v = y.k.v
  n : z.k.n = y.k.n
  paid : y.paid = true → z.paid = true
  s : StI y.k.s → StI z.k.s
structure HStay (y z : HeldV) : Prop where
  here : z.here = y.here
  wanted : z.wanted = y.wanted
  v : z.k.v = y.k.v
  paid : y.paid = true → z.paid = true
  s : StI y.k.s → StI z.k.s
theorem BStay.refl (y : OwnV) : BStay y y := ⟨rfl, rfl, rfl, rfl, id, id⟩
theorem HStay.refl (y : HeldV) : HStay y y := ⟨rfl, rfl, rfl, id, id⟩
inductive BHop (nm : Kid) : BookV → BookV → Prop
  | refl (B) : BHop nm B B
  | own (B y z) : lkt B.owns nm = some y → BStay y z → BHop nm B (B.setO nm z)
  | held (B y z) : lkt B.helds nm = some y → HStay y z → BHop nm B (B.setH nm z)
structure BIS (B : BookV) : Prop where
  bi : BI B
  os : ∀ k o, lkt B.owns k = some o → StI o.k.s
  hs : ∀ k h, lkt B.helds k = some h → StI h.k.s
structure BStayB (nm : Kid) (B C : BookV) : Prop where
  docs : C.docs = B.docs
  self : C.self = B.self
  n : C.n = B.n
  own : ∀ k, (lkt B.owns k = none ∧ lkt C.owns k = none) ∨ ∃ y z, lkt B.owns k = some y ∧ lkt C.owns k = some z ∧ BStay y z
  held : ∀ k, (lkt B.helds k = none ∧ lkt C.helds k = none) ∨ ∃ y z, lkt B.helds k = some y ∧ lkt C.helds k = some z ∧ HStay y z
  owne : ∀ k, k ≠ nm → lkt C.owns k = lkt B.owns k
  helde : ∀ k, k ≠ nm → lkt C.helds k = lkt B.helds k
  keys : C.helds.map (·.1) = B.helds.map (·.1)
theorem same_own (B : BookV) (k : Kid) : (lkt B.owns k = none ∧ lkt B.owns k = none) ∨ ∃ y z, lkt B.owns k = some y ∧ lkt B.owns k = some z ∧ BStay y z := by
  cases lkt B.owns k with
  | none => exact .inl ⟨rfl, rfl⟩
  | some y => exact .inr ⟨y, y, rfl, rfl, BStay.refl y⟩
theorem same_held (B : BookV) (k : Kid) : (lkt B.helds k = none ∧ lkt B.helds k = none) ∨ ∃ y z, lkt B.helds k = some y ∧ lkt B.helds k = some z ∧ HStay y z := by
  cases lkt B.helds k with
  | none => exact .inl ⟨rfl, rfl⟩
  | some y => exact .inr ⟨y, y, rfl, rfl, HStay.refl y⟩
theorem lkt_key {κ α : Type} [DecidableEq κ] {L : List (κ × α)} {k : κ} {y : α} (h : lkt L k = some y) : k ∈ L.map (·.1) := by
  by_cases q : k ∈ L.map (·.1)
  · exact q
  · rw [lkt_none.2 q] at h; cases h
theorem setH_at {B : BookV} (b : BI B) {k : Kid} {y : HeldV} (h : lkt B.helds k = some y) (z : HeldV) : B.setH k z = { B with helds := putt B.helds k z } := by
  refine setH_ok ?_ z
  rcases setHE_cases B k with ⟨-, gb⟩ | ⟨-, -, gn, -⟩ | ⟨g, -⟩
  · rw [b.hk k y h] at gb; cases gb
  · rw [gn] at h; cases h
  · exact g
theorem BHop.stay {nm : Kid} {B C : BookV} (h : BHop nm B C) (b : BI B) : BStayB nm B C := by
  cases h with
  | refl => exact ⟨rfl, rfl, rfl, same_own B, same_held B, fun _ _ => rfl, fun _ _ => rfl, rfl⟩
  | own y z hk hs =>
    obtain ⟨e1, e2, e3, e4⟩ := setO_same B nm z
    refine ⟨e1, e2, e3, fun k' => ?_, fun k' => by rw [e4]; exact same_held B k', fun k' hne => ?_, fun k' _ => by rw [e4], by rw [e4]⟩
    · rw [setO_lk]
      by_cases q : nm = k'
      · subst q
        rw [if_pos rfl, hk]; exact .inr ⟨y, z, rfl, rfl, hs⟩
      · rw [if_neg q]; exact same_own B k'
    · rw [setO_lk, if_neg (Ne.symm hne)]
  | held y z hk hs =>
    rw [setH_at b hk z]
    refine ⟨rfl, rfl, rfl, same_own B, fun k' => ?_, fun _ _ => rfl, fun k' hne => ?_, putt_keys nm z (lkt_key hk)⟩
    · show _ ∨ ∃ y z', lkt B.helds k' = some y ∧ lkt (putt B.helds nm z) k' = some z' ∧ HStay y z'
      rw [lkt_put]
      by_cases q : nm = k'
      · subst q
        exact .inr ⟨y, z, hk, if_pos rfl, hs⟩
      · rw [if_neg q]
        exact same_held B k'
    · show lkt (putt B.helds nm z) k' = _
      rw [lkt_put, if_neg (Ne.symm hne)]
theorem BHop.bis {nm : Kid} {B C : BookV} (h : BHop nm B C) (b : BIS B) : BIS C := by
  have st := h.stay b.bi
  have b1 : BI C := by
    cases h with
    | refl => exact b.bi
    | own y z hk hs => exact b.bi.setO (by have := b.bi.ex.own nm y hk; unfold OwnOk at this ⊢; rw [hs.v]; exact this)
    | held y z hk hs => exact b.bi.setH nm z
  refine ⟨b1, fun k o ho => ?_, fun k x hx => ?_⟩
  · rcases st.own k with ⟨h1, h2⟩ | ⟨y, z, h1, h2, h3⟩
    · rw [h2] at ho; cases ho
    · rw [h2] at ho; cases ho; exact h3.s (b.os k y h1)
  · rcases st.held k with ⟨h1, h2⟩ | ⟨y, z, h1, h2, h3⟩
    · rw [h2] at hx; cases hx
    · rw [h2] at hx; cases hx; exact h3.s (b.hs k y h1)
structure BHopR (nm : Kid) (B : BookV) (q : HR) : Prop where
  hop : BHop nm B q.b
  fail : q.e ≠ 0 → q.out = [] ∧ q.b = B
  one : q.out.length ≤ 1
theorem BHopR.no {nm : Kid} {B : BookV} (e : Int) : BHopR nm B ⟨[], e, B⟩ := ⟨.refl B, fun _ => ⟨rfl, rfl⟩, Nat.zero_le _⟩
theorem toI_range {s c v : Int} (h : toI s c = some v) : 0 ≤ v ∧ v ≤ 255 := by
  unfold toI at h
  repeat' split at h
  all_goals first | (cases h; done) | (simp only [Option.some.injEq] at h; omega)
theorem next_range {s c : Int} (h : (!decide ((nextI s c).2 = 0)) = false) : 0 ≤ (nextI s c).1 ∧ (nextI s c).1 ≤ 255 := by
  have e : nextI s c = (0, 1) ∨ nextI s c = (0, 6) ∨ ∃ v, toI s c = some v ∧ nextI s c = (v, 0) := by
    unfold nextI
    cases isB s && cmdB c with
    | false => exact .inl rfl
    | true =>
      cases hv : toI s c with
      | none => exact .inr (.inl rfl)
      | some v => exact .inr (.inr ⟨v, rfl, rfl⟩)
  rcases e with e | e | ⟨v, hv, e⟩ <;> rw [e]
  · exact ⟨by show (0 : Int) ≤ 0; decide, by show (0 : Int) ≤ 255; decide⟩
  · exact ⟨by show (0 : Int) ≤ 0; decide, by show (0 : Int) ≤ 255; decide⟩
  · exact toI_range hv
theorem someH_of {B : BookV} {k : Kid} (h : (!(lkt B.helds k).isSome) = false) : lkt B.helds k = some ((lkt B.helds k).getD held0) := by
  cases h1 : lkt B.helds k with
  | none => rw [h1] at h; cases h
  | some y => rfl
theorem useOwn_hop (B : BookV) (k : Kid) (cmd : Int) : BHop k B (useOwn B k cmd).b ∧ ((useOwn B k cmd).e ≠ 0 → (useOwn B k cmd).b = B) := by
  unfold useOwn
  refine bcase (p := fun q : HR => BHop k B q.b ∧ (q.e ≠ 0 → q.b = B)) _ (fun _ => ⟨.refl B, fun _ => rfl⟩) fun h1 => bcase (p := fun q : HR => BHop k B q.b ∧ (q.e ≠ 0 → q.b = B)) _ (fun _ => ⟨.refl B, fun _ => rfl⟩) fun _ => bcase (p := fun q : HR => BHop k B q.b ∧ (q.e ≠ 0 → q.b = B)) _ (fun _ => ⟨.refl B, fun _ => rfl⟩) fun h2 => ⟨.own B _ _ (some_of h1) ⟨rfl, rfl, rfl, rfl, fun hp => ?_, fun _ => next_range h2⟩, fun h => absurd rfl h⟩
  show (_ || _) = true
  rw [hp]; rfl
theorem use_hop (B : BookV) (k : Kid) (cmd : Int) : BHopR k B (useQ B k cmd) := by
  unfold useQ
  refine bcase _ (fun _ => .no 1) fun _ => bcase _ (fun _ => ⟨(useOwn_hop B k cmd).1, fun h => ⟨rfl, (useOwn_hop B k cmd).2 h⟩, Nat.zero_le _⟩) fun _ => ?_
  unfold useHeld
  refine bcase _ (fun _ => .no 4) fun h1 => bcase _ (fun _ => .no 160) fun _ => bcase _ (fun _ => .no _) fun h2 => ⟨.held B _ _ (someH_of h1) ⟨rfl, rfl, rfl, id, fun _ => next_range h2⟩, fun h => absurd rfl h, ?_⟩
  show (bif decide ((nextI ((lkt B.helds k).getD held0).k.s cmd).1 = 4) then [billO k ((lkt B.helds k).getD held0).k.v] else []).length ≤ 1
  cases decide ((nextI ((lkt B.helds k).getD held0).k.s cmd).1 = 4)
  · exact Nat.zero_le _
  · exact Nat.le_refl _
theorem bill_hop (B : BookV) (k : Kid) (amt : Int) : BHopR k B (billQ B k amt) := by
  unfold billQ
  exact bcase _ (fun _ => .no 4) fun h1 => bcase _ (fun _ => .no 160) fun _ => bcase _ (fun _ => .no 6) fun _ => bcase _ (fun _ => .no 7) fun _ => ⟨.held B _ _ (someH_of h1) ⟨rfl, rfl, rfl, id, id⟩, fun h => absurd rfl h, Nat.le_refl _⟩
theorem hbill_hop (B : BookV) (c : Int) (m : MsV) : BHopR m.key B (hbillQ B c m) := by
  unfold hbillQ
  exact bcase _ (fun _ => ⟨.refl B, fun h => absurd rfl h, Nat.le_refl _⟩) fun h1 => bcase _ (fun _ => ⟨.refl B, fun h => absurd rfl h, Nat.le_refl _⟩) fun _ => bcase _ (fun _ => ⟨.refl B, fun h => absurd rfl h, Nat.le_refl _⟩) fun _ => bcase _ (fun _ => ⟨.refl B, fun h => absurd rfl h, Nat.le_refl _⟩) fun _ => ⟨.own B _ _ (some_of h1) ⟨rfl, rfl, rfl, rfl, fun _ => rfl, fun _ => ⟨by show (0 : Int) ≤ 4; decide, by show (4 : Int) ≤ 255; decide⟩⟩, fun h => absurd rfl h, Nat.le_refl _⟩
theorem hans_hop (B : BookV) (c : Int) (m : MsV) : BHopR m.key B ⟨[], 0, hansB B c m⟩ := by
  refine ⟨?_, fun h => absurd rfl h, Nat.zero_le _⟩
  unfold hansB
  refine bcase (p := fun q => BHop m.key B q) _ (fun h => ?_) fun _ => .refl B
  have h2 : (lkt B.helds m.key).isSome = true := by
    unfold isHeld at h
    rw [Bool.and_eq_true, Bool.and_eq_true] at h
    exact h.1.1
  obtain ⟨y, hy⟩ := Option.isSome_iff_exists.1 h2
  rw [hy]
  refine .held B y _ hy ⟨rfl, rfl, rfl, fun hp => ?_, id⟩
  have hp : y.paid = true := hp
  show (y.paid || _) = true
  rw [hp]; rfl
theorem hearB_hop (B : BookV) (c : Int) (m : MsV) : BHopR m.key B (hearBQ B c m) := by
  unfold hearBQ
  exact bcase _ (fun _ => .no 1) fun _ => bcase _ (fun _ => hbill_hop B c m) fun _ => hans_hop B c m
def doB (B : BookV) (x : Act18) : HR := if x.d = 0 then useQ B x.k x.cmd else if x.d = 1 then billQ B x.k x.amt else hearBQ B x.frm x.m
def nmB (x : Act18) : Kid := if x.d = 0 then x.k else if x.d = 1 then x.k else x.m.key
theorem doB_hop (B : BookV) (x : Act18) : BHopR (nmB x) B (doB B x) := by
  unfold doB nmB
  split
  · exact use_hop B _ _
  split
  · exact bill_hop B _ _
  exact hearB_hop B _ _
theorem new_bis (self n : Int) (h : 0 ≤ self ∧ self < n ∧ 2 ≤ n ∧ n ≤ 8) : BIS (bookNew self n) := ⟨new_bi self n h, (fun k o e => by cases e), fun k o e => by cases e⟩
theorem iss_st (t : Tid) (s : SaleV) (vs : List Int) (L : OwnsV) (h : ∀ k o, lkt L k = some o → StI o.k.s) : ∀ (i : Nat) k o, lkt (issO t s vs L i) k = some o → StI o.k.s
  | 0, k, o, e => h k o e
  | i + 1, k, o, e => by
    unfold issO at e
    rw [lkt_put] at e
    split at e
    · cases e; exact ⟨by show (0 : Int) ≤ 1; decide, by show (1 : Int) ≤ 255; decide⟩
    · exact iss_st t s vs L h i k o e
theorem BIS.step {B : BookV} (h : BIS B) {x : Act15} (ok : SaleOk x.s) (ho : OwnOk x.o) (h1 : StI x.o.k.s) (h2 : StI x.h.k.s) : BIS (step15 B x) := by
  refine ⟨h.bi.step ok ho, fun k o hk => ?_, fun k y hk => ?_⟩
  · unfold step15 at hk
    split at hk
    · unfold BookV.issue at hk
      cases hd : decide (B.issE x.s = 0) with
      | true => rw [hd] at hk; exact iss_st _ _ _ _ h.os _ k o hk
      | false => rw [hd] at hk; exact h.os k o hk
    split at hk
    · rw [setO_lk] at hk
      split at hk
      · cases hq : lkt B.owns x.k with
        | none => rw [hq] at hk; cases hk
        | some y => rw [hq] at hk; cases hk; exact h1
      · exact h.os k o hk
    split at hk
    · rw [(setH_same B x.k x.h).2.2.2] at hk; exact h.os k o hk
    exact h.os k o hk
  · unfold step15 at hk
    split at hk
    · unfold BookV.issue at hk
      cases hd : decide (B.issE x.s = 0) with
      | true => rw [hd] at hk; exact h.hs k y hk
      | false => rw [hd] at hk; exact h.hs k y hk
    split at hk
    · rw [(setO_same B x.k x.o).2.2.2] at hk; exact h.hs k y hk
    split at hk
    · rcases setHE_cases B x.k with ⟨g, -⟩ | ⟨g, -⟩ | ⟨g, -⟩
      · rw [setH_not (by rw [g]; decide)] at hk; exact h.hs k y hk
      · rw [setH_not (by rw [g]; decide)] at hk; exact h.hs k y hk
      · rw [setH_ok g] at hk
        have hk : lkt (putt B.helds x.k x.h) k = some y := hk
        rw [lkt_put] at hk
        split at hk
        · cases hk; exact h2
        · exact h.hs k y hk
    exact h.hs k y hk
theorem run_bis {self n : Int} (hs : 0 ≤ self ∧ self < n ∧ 2 ≤ n ∧ n ≤ 8) {acts : List Act15} (hA : ∀ x ∈ acts, SaleOk x.s ∧ OwnOk x.o ∧ StI x.o.k.s ∧ StI x.h.k.s) : ∀ i ≤ acts.length, BIS (run15 (bookNew self n) acts i)
  | 0, _ => new_bis self n hs
  | i + 1, hi => by
    have hin : acts.getD i act15Z ∈ acts := List.mem_of_getElem? (getD_some (by omega) act15Z)
    exact (run_bis hs hA i (by omega)).step (hA _ hin).1 (hA _ hin).2.1 (hA _ hin).2.2.1 (hA _ hin).2.2.2
end Go.Proofs.YtnkghdakjdhhdaaGreat
end
