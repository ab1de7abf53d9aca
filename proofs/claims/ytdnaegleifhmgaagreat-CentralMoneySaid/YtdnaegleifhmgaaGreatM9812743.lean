/- Ce23, Ce26. -/
import Derived.Test.YtdnaegleifhmgaaGreatMc9ee414
import Derived.Test.YtdnaegleifhmgaaGreatM7ce3b18
import Derived.Test.YtdnaegleifhmgaaGreatM917a858
import Derived.Test.YtdnaegleifhmgaaGreatCe25
set_option maxRecDepth 100000
set_option linter.unusedVariables false
set_option linter.unusedSimpArgs false
set_option linter.unusedSectionVars false
section
namespace Go.Proofs.YtdnaegleifhmgaaGreat
open Go.RowKit Go.Lib Go.Tk Go.Shelf Go.Vc Go.Sx Go.Maps Go.Sort
section
variable {α : Type} [Inhabited α] {enc : α → List Value} {k : Nat}
theorem holdsK_of_rowF {w : World} {E : TypeId} {g cap n : Nat} (hk : ∀ x, (enc x).length = k) (d : Array α) (hn : d.size = n) (h : RowF E k w (.slice (some ⟨g, 0, none⟩) n cap) n (cellsL enc d.toList)) : HoldsK enc k w g 0 d := by
  subst hn
  obtain ⟨hl, ⟨h0, -⟩ | ⟨g2, cap2, cur, hv, hb, r1, r2, r3, r4⟩⟩ := h
  · cases h0
  · simp only [Value.slice.injEq, Option.some.injEq, Addr.mk.injEq, true_and, and_true] at hv
    obtain ⟨rfl, rfl⟩ := hv
    intro j hj
    have hj' : j < d.size * k := by simpa using hj
    have hc : j < cur.size := by rw [r3]; exact Nat.lt_of_lt_of_le hj' (Nat.mul_le_mul_right k r1)
    rw [Nat.zero_add]
    refine ⟨?_, hb.free j hc⟩
    refine hb.cell j ?_
    have e1 : (cellsL enc d.toList)[j]? = cur[j]? := by rw [← r4, List.getElem?_take_of_lt hj']; simp
    rw [← e1, ← flat_get hk d j hj', List.getD_eq_getElem?_getD]
    have : j < ((d.toList.map enc).flatten).length := by rw [flat_len hk]; exact hj'
    show ((d.toList.map enc).flatten)[j]? = some (id _)
    rw [List.getElem?_eq_getElem this]; rfl
theorem rowF_sortedK {w : World} {E : TypeId} {g cap n : Nat} {m : Nat} {os : Array Obj} (hk : ∀ x, (enc x).length = k) (d' : Array α) (hn : d'.size = n) (xs : List Value)
    (h : RowF E k w (.slice (some ⟨g, 0, none⟩) n cap) n xs) : RowF E k (sortWorldK enc k w g 0 m d' os) (.slice (some ⟨g, 0, none⟩) n cap) n (cellsL enc d'.toList) := by
  subst hn
  obtain ⟨hl0, ⟨h0, -⟩ | ⟨g2, cap2, cur, hv, ⟨E', fz, e1, e2, e3⟩, h1, h2, h3, h4⟩⟩ := h
  · cases h0
  · simp only [Value.slice.injEq, Option.some.injEq, Addr.mk.injEq, true_and, and_true] at hv
    obtain ⟨rfl, rfl⟩ := hv
    have hg : g < w.heap.size := (Array.getElem?_eq_some_iff.1 e2).1
    have hl : (cellsL enc d'.toList).length = d'.size * k := flat_len hk d'
    have hcs : d'.size * k ≤ cur.size := by rw [h3]; exact Nat.mul_le_mul_right k h1
    refine ⟨hl, .inr ⟨g, cap, putCells id 0 (flatK enc k d') cur, rfl, ⟨E', fz, e1, ?_, by simpa [putCells] using e3⟩, h1, h2, by simp [putCells, h3], ?_⟩⟩
    · unfold sortWorldK putRowK
      rw [heap_grow_old _ _ (by simpa using hg)]
      simp [putRow, mapBlock, Sort.ahead, Array.getElem?_modify, e2, onCells]
    · apply List.ext_getElem?
      intro j
      by_cases hj : j < d'.size * k
      · rw [List.getElem?_take_of_lt hj, Array.getElem?_toList]
        have e1 := flat_get hk d' j hj
        have e2 : (cellsL enc d'.toList)[j]? = some ((cellsL enc d'.toList).getD j undef) := by
          rw [List.getD_eq_getElem?_getD, List.getElem?_eq_getElem (by rw [hl]; exact hj)]; rfl
        rw [e2]
        show _ = some (((d'.toList.map enc).flatten).getD j undef)
        rw [e1]
        simp [putCells, hj, show j < cur.size by omega]
      · rw [List.getElem?_take_eq_none (by omega), List.getElem?_eq_none (by rw [hl]; omega)]
theorem sort_row {f g1 : Nat} {E : TypeId} {cf : α → α → Int} (hk : ∀ x, (enc x).length = k) (hS : SWO (ltOf cf)) (hT : ∀ x y, ltOf cf x y = false → ltOf cf y x = false → x = y)
    (hn : ∀ w, Calls Tryz.prog f #[.slice none 0 0, .func (.func g1) #[] #[]] w fun e w' => e = .returned (.tuple #[]) ∧ w' = w)
    (hs : ∀ (gb cap : Nat) (d : Array α) (W : World), HoldsK enc k W gb 0 d → gb < W.heap.size → d.size ≤ 1000000000 → Calls Tryz.prog f #[.slice (some ⟨gb, 0, none⟩) d.size cap, .func (.func g1) #[] #[]] W fun e w' => e = .returned (.tuple #[]) ∧ ∃ n os, w' = sortWorldK enc k W gb 0 n (sortBy cf d.toList).toArray os)
    {ks ss : List α} (hp : ks.Perm ss) (hl : ss.length ≤ 1000000000) :
    CallOK Tryz.prog f [.raw 0 0, .fn (.func g1) [] []] [] [((0, 0), .row E k ss.length (.shal (cellsL enc ks)) [])] noS [((0, 0), .row E k ss.length (.shal (cellsL enc (sortBy cf ss))) [])] := by
  intro ε R w hM
  have hM : Mem (rowC E k (asSl (ε 0 0).2) ss.length (cellsL enc ks) :: R) w := hM
  have hlen : ks.length = ss.length := hp.length_eq
  have hrow := hM.owns 0 rfl
  have e1 : sortBy cf ks = sortBy cf ss := sortBy_eq hS hT hp
  rcases hrow.2 with ⟨hv, hz⟩ | ⟨g, cap, cur, hv, hb, r1, r2, r3, r4⟩
  · have hss : ss = [] := List.eq_nil_of_length_eq_zero hz
    subst hss
    have hks : ks = [] := List.eq_nil_of_length_eq_zero hlen
    subst hks
    have hA : (SV.dens ε [.raw 0 0, .fn (.func g1) [] []]).toArray = #[.slice none 0 0, .func (.func g1) #[] #[]] := by simp only [SV.dens, SV.den, hv]
    rw [hA]
    refine (hn w).mono ?_
    rintro e w' ⟨rfl, rfl⟩
    refine ⟨ε 1, rfl, ?_⟩
    rw [eset_self]
    have e0 : sortBy cf ([] : List α) = [] := List.eq_nil_of_length_eq_zero (sortBy_perm cf []).length_eq
    rw [e0]
    exact hM
  · have hA : (SV.dens ε [.raw 0 0, .fn (.func g1) [] []]).toArray = #[.slice (some ⟨g, 0, none⟩) ss.length cap, .func (.func g1) #[] #[]] := by simp only [SV.dens, SV.den, hv]
    have hda : ks.toArray.size = ss.length := by simpa using hlen
    rw [hv] at hrow
    have hH : HoldsK enc k w g 0 ks.toArray := holdsK_of_rowF (E := E) hk ks.toArray hda hrow
    have hgl : g < w.heap.size := hb.lt
    have c := hs g cap ks.toArray w hH hgl (by rw [hda]; exact hl)
    rw [hA]
    rw [hda] at c
    refine c.mono ?_
    rintro e w' ⟨rfl, nn, os, rfl⟩
    refine ⟨ε 1, rfl, ?_⟩
    rw [eset_self]
    show Mem (rowC E k (asSl (ε 0 0).2) ss.length (cellsL enc (sortBy cf ss)) :: R) _
    have hgr := swk_grown (enc := enc) (k := k) (w0 := w) (g := g) (off := 0) (d := (sortBy cf ks).toArray) ⟨nn, os, rfl⟩
    have hr2 := rowF_sortedK (m := nn) (os := os) (enc := enc) (k := k) hk (sortBy cf ks).toArray (by have := (sortBy_perm cf ks).length_eq; simpa [hlen] using this) _ hrow
    exact hM.step 0 rfl (c' := rowC E k (asSl (ε 0 0).2) ss.length (cellsL enc (sortBy cf ss))) (fun S hS hlt => ⟨⟨hgr.os, hgr.tape, hgr.output, hgr.size, fun b hb' hnb => hgr.block b hb' (fun e => hnb (by cases e; exact hS.1 g (by rw [hv]; rfl)))⟩, S, ⟨hS.1, by rw [hv, ← e1]; exact hr2⟩, fun b hb' => ⟨.inl hb', Nat.lt_of_lt_of_le (hlt b hb') hgr.size⟩⟩)
end
def encP (S : List (Kid × SlipV)) (k : Kid) : List Value := placeL { ((lkt S k).getD slip0).p with key := k }
def SortPF : Nat := 25
theorem cmpP_lays (S : List (Kid × SlipV)) (blk off size : Nat) (w : World) : CmpLays Tryz.prog 26 #[] (encP S) 8 cfK blk off size w := by
  intro m os dk _ x y
  refine (places1_any { ((lkt S x).getD slip0).p with key := x } { ((lkt S y).getD slip0).p with key := y } _).mono ?_
  rintro e w' ⟨rfl, h⟩
  exact ⟨rfl, h⟩
theorem sortP_c (S : List (Kid × SlipV)) {ks ss : List Kid} (hp : ks.Perm ss) (hl : ss.length ≤ 1000000000) :
    CallOK Tryz.prog SortPF [.raw 0 0, .fn (.func Places1F) [] []] [] [((0, 0), .row 61 8 ss.length (.shal (cellsL (encP S) ks)) [])] noS [((0, 0), .row 61 8 ss.length (.shal (cellsL (encP S) (sortBy cfK ss))) [])] :=
  sort_row (enc := encP S) (k := 8) (cf := cfK) (fun _ => rfl) swoK totK
    (fun w => AnyF.slices_SortFunc_none sortP none 0 _ w)
    (fun gb cap d W hH hgl hsz => AnyQ.slices_SortFunc_total sortP 8 Tryz.isAgg61 Tryz.sizeOf61 (encP S) (fun _ => rfl) (fun x v hv => by simp [encP, placeL] at hv; rcases hv with rfl | rfl | rfl | rfl | rfl | rfl | rfl | rfl <;> rfl) cfK swoK Places1F #[] gb 0 cap d W (enters_of Tryz.func26 (by kernel_rfl) rfl) (cmpP_lays S gb 0 _ W) hH hgl (by omega) totK) hp hl
end Go.Proofs.YtdnaegleifhmgaaGreat
end
section
namespace Go.Proofs.YtdnaegleifhmgaaGreat
open Go.RowKit Go.Lib Go.Tk Go.Shelf Go.Vc Go.Sx Go.Maps Go.Sort
def cellsPR : List (Kid × SlipV) → List Value
  | [] => []
  | p :: r => cellsPR r ++ placeL p.2.p
theorem cellsPR_eq (S : SlipsV) : ∀ l : List (Kid × SlipV), (∀ p ∈ l, encP S p.1 = placeL p.2.p) → cellsPR l = cellsL (encP S) (l.map (·.1)).reverse
  | [], _ => rfl
  | p :: r, h => by
    show cellsPR r ++ placeL p.2.p = _
    rw [cellsPR_eq S r (fun q hq => h q (List.mem_cons_of_mem _ hq)), ← h p List.mem_cons_self]
    unfold cellsL
    rw [List.map_cons, List.reverse_cons, List.map_append, List.flatten_append]
    simp
def placesR (B : LedV) : SC := .row 61 8 B.slips.length (.shal (cellsL (encP B.slips) (sortBy cfK (B.slips.map (·.1))))) []
def oldL (B : LedV) (a : LedA) : Heap := [((0, 0), .box none [.val (.int .i64 B.n), .val (.map (some a.d)), .val (.map (some a.s))]), ((0, 1), .fam fun _ _ => docsX B.docs a.d undef)]
def rowP (n : Nat) (cs : List Value) : SC := .row 61 8 n (.shal cs) []
theorem places_w (B : LedV) (hn : (B.slips.map (·.1)).Nodup) (hk : ∀ p ∈ B.slips, p.2.p.key = p.1) (hl : B.slips.length ≤ 1000000) :
    CallOK Tryz.prog PlacesF [.ptr 0 0 0] [] (ledC B) (.raw 1 0) (ledC B ++ [((1, 0), placesR B)]) := by
  have henc : ∀ p ∈ B.slips, encP B.slips p.1 = placeL p.2.p := fun p hp => by
    unfold encP
    rw [lkt_of hn hp, Option.getD_some]
    have := hk p hp
    obtain ⟨k, ⟨⟨key, way, car, st, non, paid⟩, l, v⟩⟩ := p
    have e : key = k := this
    subst e
    rfl
  refine callOK_intro (by kernel_rfl) fun eb R => ?_
  refine go_open (X := LedA) (fun a => oldL B a ++ [((0, 2), .fam fun _ _ => mapC kidK a.s (ents slipW B.slips))])
    (fun ε w hM => by
      obtain ⟨a, h⟩ := Mem.ex hM
      exact ⟨a, h.all⟩) (fun x => by kernel_rfl) fun a => ?_
  have r1 := rangeG (P := Tryz.prog) (K := kidK) (t := ST) (m := a.s) (j := 2) (L := ents slipW B.slips) Tryz.underlying82
  have d1 := next_doneG (P := Tryz.prog) (K := kidK) (m := a.s) (L := ents slipW B.slips)
  refine go_loop (X := { x : List (Kid × SlipV) × List (Kid × SlipV) // B.slips.Perm (x.1 ++ x.2) }) 0 [] (fun x => ([(0, .ptr 0 0 0), (3, .raw 1 8), (12, .ptr 1 9 0)],
      oldL B a ++ [((1, 9), .fam fun r _ => rngC kidK r a.s (ents slipW B.slips) (ents slipW x.1.2)), ((1, 8), rowP x.1.1.length (cellsPR x.1.1))]))
    (fun x => x.1.2.length) ⟨([], B.slips), List.Perm.refl _⟩ calNone false 400 [hG 4 4 r1] calNone_ok (by kernel_rfl) ?_
  rintro ⟨⟨done, left⟩, hd⟩ J hJ
  cases left with
  | cons x l =>
    have m1 := next_moreG (P := Tryz.prog) (K := kidK) (m := a.s) (L := ents slipW B.slips) (left := ents slipW (x :: l)) (by simp [ents])
    refine leaf_cut (rgK Tryz.prog PlacesF 6 [J]) [(0, .ptr 0 0 0), (3, .raw 1 8), (12, .ptr 1 9 0)]
      ([((1, 9), .fam fun r _ => exC fun (y : (Kid × Value) × List (Kid × Value)) => curC kidK r a.s (ents slipW B.slips) (ents slipW (x :: l)) y.1 y.2)] ++ (oldL B a ++ [((1, 8), rowP done.length (cellsPR done))]))
      calNone false 400 [hG 5 0 m1, .stop 6] calNone_ok (by kernel_rfl) ?_
    refine go_open (X := { y : (Kid × SlipV) × List (Kid × SlipV) // (x :: l).Perm (y.1 :: y.2) }) (fun y => [((1, 9), .fam fun r _ => curC kidK r a.s (ents slipW B.slips) (ents slipW (x :: l)) (y.1.1.1, slipW y.1.1.2) (ents slipW y.1.2))] ++ (oldL B a ++ [((1, 8), rowP done.length (cellsPR done))]))
      (fun ε w hM => by obtain ⟨y, h⟩ := cur_typed hM; exact ⟨y, h⟩) (fun y => by kernel_rfl) ?_
    rintro ⟨⟨⟨k, p⟩, l'⟩, hp⟩
    have hd' : B.slips.Perm (((k, p) :: done) ++ l') := (hd.trans (List.Perm.append_left done hp)).trans List.perm_middle
    have hlt : l'.length < (x :: l).length := by have := hp.length_eq; simp only [List.length_cons] at this ⊢; omega
    have hbd : done.length + 1 ≤ 1073741824 := by
      have := hd'.length_eq
      simp only [List.length_append, List.length_cons] at this
      omega
    have g1 := entryG (P := Tryz.prog) (K := kidK) (m := a.s) (L := ents slipW B.slips) (left := ents slipW (x :: l)) (left' := ents slipW l') (p := (k, slipW p)) (ks := .agg (kidS k)) (vs := .agg (slipS p)) (fun _ => rfl) (fun _ => rfl)
    exact leaf_round (lpK Tryz.prog PlacesF 0 []) false 400 [hG 6 0 g1, .opt 7 4 (.le _ hbd)] (hJ ⟨((k, p) :: done, l'), hd'⟩ hlt) (by kernel_rfl)
  | nil =>
    rw [List.append_nil] at hd
    have e1 : cellsPR done = cellsL (encP B.slips) (done.map (·.1)).reverse := cellsPR_eq B.slips done fun p hp => henc p (hd.mem_iff.2 hp)
    have e2 : done.length = (B.slips.map (·.1)).length := by rw [List.length_map]; exact hd.length_eq.symm
    have e3 : B.slips.length = (B.slips.map (·.1)).length := by rw [List.length_map]
    have hpm : (done.map (·.1)).reverse.Perm (B.slips.map (·.1)) := (List.reverse_perm _).trans (hd.map (·.1)).symm
    have c1 := sortP_c B.slips hpm (by rw [List.length_map]; omega)
    refine leaf_cut (rgK Tryz.prog PlacesF 8 []) [(3, .raw 1 8)]
      (oldL B a ++ [((1, 9), .fam fun r _ => rngC kidK r a.s (ents slipW B.slips) []), ((1, 8), rowP done.length (cellsPR done))])
      calNone false 400 [hG 5 0 d1, .stop 8] calNone_ok (by kernel_rfl) ?_
    rw [e1, e2]
    unfold placesR
    rw [e3]
    refine go_open (X := Unit) (fun _ => [((0, 0), .fam (ledF B)), ((1, 8), rowP (B.slips.map (·.1)).length (cellsL (encP B.slips) (done.map (·.1)).reverse))]) (fun ε w hM => ⟨(), by
      have hM : Mem (boxE none (ε 0 0).1 #[.int .i64 B.n, .map (some a.d), .map (some a.s)] :: docsX B.docs a.d undef :: rngC kidK (ε 1 9).1 a.s (ents slipW B.slips) [] :: (rowP (B.slips.map (·.1)).length (cellsL (encP B.slips) (done.map (·.1)).reverse)).den ε 1 8 :: R) w := hM
      have h1 := (hM.front 2 rfl).weaken (c' := mapT kidK slipW B.slips a.s undef) fun S hS => ⟨hS.2.1, hS.2.2.map⟩
      have h2 := (h1.front 2 rfl).front 2 rfl
      exact Mem.in_ex (f := fun y : LedA => allC [boxE none (ε 0 0).1 #[.int .i64 B.n, .map (some y.d), .map (some y.s)], docsX B.docs y.d undef, mapT kidK slipW B.slips y.s undef]) a (Mem.in_all (l := [_, _, _]) h2)⟩) (fun _ => by kernel_rfl) fun _ => ?_
    exact leaf_end calNone false 400 [hC 8 1 c1] calNone_ok (by kernel_rfl)
end Go.Proofs.YtdnaegleifhmgaaGreat
end
