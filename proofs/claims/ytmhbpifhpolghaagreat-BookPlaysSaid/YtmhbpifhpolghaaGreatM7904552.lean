/- Pb9, Pb10, Pb11, Pb12, Pb13. -/
import Derived.Test.YtmhbpifhpolghaaGreatM2041e2f
set_option maxRecDepth 100000
set_option linter.unusedVariables false
set_option linter.unusedSimpArgs false
set_option linter.unusedSectionVars false
section
namespace Go.Proofs.YtmhbpifhpolghaaGreat
open Go.RowKit Go.Lib Go.Tk Go.Shelf Go.Vc Go.Sx
structure Good (G : CF) (B : BookV) (L : List (DocV × DocA)) (R : RefV) : Prop where
  bi : BI B
  rel : RelB B R
  ri : RI R
  ky : KeyOk R
  hL : L.map nrm = R.docs
  rd : ∀ p ∈ L, DocRdG G p.1 p.2
  no : (B.owns.map (·.1)).Nodup
  nh : (B.helds.map (·.1)).Nodup
  kh : ∀ p ∈ B.helds, KidOk p.1
section
variable {G H : CF} {B C : BookV} {L M : List (DocV × DocA)} {R S : RefV}
theorem Good.ext (e : ExtF G H) (h : Good G B L R) : Good H B L R := ⟨h.bi, h.rel, h.ri, h.ky, h.hL, fun p hp => (h.rd p hp).ext e, h.no, h.nh, h.kh⟩
theorem Good.docs (h : Good G B L R) : L.map (·.1) = B.docs := by rw [← h.rel.docs, ← h.hL, List.map_map]; rfl
theorem Good.llen (h : Good G B L R) : L.length = B.docs.length := by rw [← h.docs, List.length_map]
theorem Good.l32 (h : Good G B L R) : L.length ≤ 32 := by rw [h.llen]; exact h.bi.ex.bk.many
theorem Good.mem (h : Good G B L R) {p : DocV × DocA} (hp : p ∈ L) : p.1 ∈ B.docs := by rw [← h.docs]; exact List.mem_map_of_mem hp
theorem Good.sal (h : Good G B L R) : ∀ p ∈ L, SaleOk p.1.s ∧ p.1.vals.length ≤ 1073741824 ∧ DocRdG G p.1 p.2 := fun p hp => ⟨h.bi.ex.sal _ (h.mem hp), (h.bi.ex.sm _ (h.mem hp)).nv, h.rd p hp⟩
theorem Good.own_n (h : Good G B L R) : R.owns.length ≤ 1000000 := by have := h.ri.ho; have := h.ri.hd; omega
theorem Good.held_n (h : Good G B L R) : R.helds.length ≤ 1000000 := by have := h.ri.hh; omega
theorem Good.keysOk (h : Good G B L R) : ∀ k ∈ keysL B, KidOk k := fun k hk => by
  have := (sortBy_perm cfK (B.helds.map (·.1))).mem_iff.1 hk
  obtain ⟨p, hp, rfl⟩ := List.mem_map.1 this
  exact h.kh p hp
theorem Good.keysN (h : Good G B L R) : (keysL B).Nodup := ((sortBy_perm cfK _).nodup_iff).2 h.nh
theorem Good.setO (h : Good G B L R) (k : Kid) {o : OwnV} (ho : OwnOk o) : Good G (B.setO k o) L (R.setO k o) := by
  refine ⟨h.bi.setO ho, setO_rel h.rel k o, h.ri.setO k o, h.ky.setO k o, by rw [setO_docsR]; exact h.hL, h.rd, ?_, ?_, ?_⟩
  · cases e : lkt B.owns k with
    | none => rw [setO_none e]; exact h.no
    | some y => rw [setO_some e]; exact putt_nodup h.no k o
  · cases e : lkt B.owns k with
    | none => rw [setO_none e]; exact h.nh
    | some y => rw [setO_some e]; exact h.nh
  · cases e : lkt B.owns k with
    | none => rw [setO_none e]; exact h.kh
    | some y => rw [setO_some e]; exact h.kh
theorem putt_mem {κ α : Type} [DecidableEq κ] {L : List (κ × α)} {k : κ} {a : α} {p : κ × α} (h : p ∈ putt L k a) : p ∈ L ∨ p = (k, a) := by
  induction L with
  | nil =>
    have h : p ∈ [(k, a)] := h
    exact .inr (List.mem_singleton.1 h)
  | cons q l ih =>
    have h : p ∈ (if q.1 = k then (k, a) :: l else q :: putt l k a) := h
    by_cases e : q.1 = k
    · rw [if_pos e] at h
      rcases List.mem_cons.1 h with h | h
      · exact .inr h
      · exact .inl (List.mem_cons_of_mem _ h)
    · rw [if_neg e] at h
      rcases List.mem_cons.1 h with h | h
      · exact .inl (h ▸ List.mem_cons_self ..)
      · rcases ih h with h | h
        · exact .inl (List.mem_cons_of_mem _ h)
        · exact .inr h
theorem Good.setH (h : Good G B L R) {k : Kid} (hk : KidOk k) (x : HeldV) : Good G (B.setH k x) L (R.setH k x) := by
  refine ⟨h.bi.setH k x, setH_rel h.rel h.bi k x, h.ri.setH k x, h.ky.setH k x, by rw [(setH_own R k x).2.2.1]; exact h.hL, h.rd, ?_, ?_, ?_⟩
  · by_cases e : B.setHE k = 0
    · rw [setH_ok e]; exact h.no
    · rw [setH_not e]; exact h.no
  · by_cases e : B.setHE k = 0
    · rw [setH_ok e]; exact putt_nodup h.nh k x
    · rw [setH_not e]; exact h.nh
  · by_cases e : B.setHE k = 0
    · rw [setH_ok e]
      intro p hp
      rcases putt_mem hp with hp | rfl
      · exact h.kh p hp
      · exact hk
    · rw [setH_not e]; exact h.kh
theorem issO_nodup (t : Tid) (s : SaleV) (vs : List Int) {K : OwnsV} (h : (K.map (·.1)).Nodup) : ∀ i, ((issO t s vs K i).map (·.1)).Nodup
  | 0 => h
  | i + 1 => putt_nodup (issO_nodup t s vs h i) _ _
theorem Good.issued (h : Good G B L R) {s : SaleV} (ok : SaleOk s) {A : SaleA} (hm : B.issE s = 0) {va : Option Addr} {vc : Nat} (rd : DocRdG G (docMade R.nextT s) ⟨A.la, A.lc, A.ta, A.tc, va, vc⟩) : Good G (B.issued s) (L ++ [(docMade R.nextT s, ⟨A.la, A.lc, A.ta, A.tc, va, vc⟩)]) (R.issued s A) := by
  have hr : R.issE s = 0 := by rw [h.rel.issE]; exact hm
  have e1 : B.issue s = B.issued s := by unfold BookV.issue; rw [hm]; rfl
  have e2 : R.issue s A = R.issued s A := by unfold RefV.issue; rw [hr]; rfl
  have b1 := h.bi.issue ok
  have r1 := h.rel.issue h.bi.ex.bk ok A
  have r2 := h.ri.issue ok A
  rw [e1] at b1 r1
  rw [e2] at r1 r2
  have hl := R.issE_ok ok hr
  refine ⟨b1, r1, r2, h.ky.issued (fun p hp => (h.rel.ownK p hp).2) A (by omega), ?_, ?_, issO_nodup _ _ _ h.no _, h.nh, h.kh⟩
  · rw [List.map_append, h.hL]; rfl
  · intro p hp
    rcases List.mem_append.1 hp with hp | hp
    · exact h.rd p hp
    · rw [List.mem_singleton] at hp
      subst hp; exact rd
theorem putD_set {ds : List DocV} {self : Int} (hd : ∀ (i : Nat) (d : DocV), ds[i]? = some d → d.t = ⟨self, (i : Int) + 1⟩) {k : Nat} {d0 d : DocV} (hk : ds[k]? = some d0) (ht : d0.t = d.t) : putD ds d = ds.set k d := by
  apply List.ext_getElem?
  intro j
  unfold putD
  rw [List.getElem?_map, List.getElem?_set]
  by_cases q : k = j
  · subst q
    have hil := (List.getElem?_eq_some_iff.1 hk).1
    rw [if_pos rfl, if_pos hil, hk]
    show some (if d0.t = d.t then d else d0) = _
    rw [if_pos ht]
  · rw [if_neg q]
    cases e : ds[j]? with
    | none => rfl
    | some x =>
      show some (if x.t = d.t then d else x) = _
      rw [if_neg]
      intro hx
      have h1 := hd k d0 hk
      have h2 := hd j x e
      rw [← ht, h1, h2] at hx
      injection hx with _ hx
      omega
theorem Good.setD (h : Good G B L R) {d : DocV} {a : DocA} {k : Nat} {p : DocV × DocA} (hk : L[k]? = some p) (ht : p.1.t = d.t) (ok : SaleOk d.s) (sm : DocSmall d) (rd : DocRdG G d a) : Good G (B.setD d) (L.set k (d, a)) { R with docs := (L.set k (d, a)).map nrm } := by
  have hk2 : B.docs[k]? = some p.1 := by rw [← h.docs, List.getElem?_map, hk]; rfl
  have hl : ((L.set k (d, a)).map nrm).length = R.docs.length := by rw [List.length_map, List.length_set, ← h.hL, List.length_map]
  refine ⟨⟨h.bi.ex.setD ok sm, h.bi.hk, h.bi.hl⟩, ⟨h.rel.self, h.rel.n, ?_, h.rel.own, h.rel.ownN, fun q hq => ?_, h.rel.held, h.rel.keys⟩, ⟨h.ri.hs, ?_, ?_, h.ri.hh⟩, h.ky.of rfl rfl, rfl, fun q hq => ?_, h.no, h.nh, h.kh⟩
  · show ((L.set k (d, a)).map nrm).map (·.1) = putD B.docs d
    rw [putD_set h.bi.ex.bk.docs hk2 ht, List.map_map, List.map_set, ← h.docs]
    rfl
  · have := h.rel.ownK q hq
    exact ⟨this.1, by show q.1.t.r ≤ (((L.set k (d, a)).map nrm).length : Int); rw [hl]; exact this.2⟩
  · show ((L.set k (d, a)).map nrm).length ≤ 32
    rw [hl]; exact h.ri.hd
  · show R.owns.length ≤ 4 * ((L.set k (d, a)).map nrm).length
    rw [hl]; exact h.ri.ho
  · rcases List.mem_or_eq_of_mem_set hq with hq | rfl
    · exact h.rd q hq
    · exact rd
theorem Good.new (G : CF) (self n : Int) (h : 0 ≤ self ∧ self < n ∧ 2 ≤ n ∧ n ≤ 8) : Good G (bookNew self n) [] (refNew self n) :=
  ⟨new_bi self n h, new_rel self n, ⟨by show 0 ≤ self ∧ self ≤ 255; omega, by show (0 : Nat) ≤ 32; omega, by show (0 : Nat) ≤ 4 * 0; omega, by show (0 : Nat) ≤ 64; omega⟩, key_new self n, rfl, (fun p hp => by cases hp), List.nodup_nil, List.nodup_nil, fun p hp => by cases hp⟩
theorem docs_eq (h : Good G B L R) (g : Good H C M S) (es : B.self = C.self) (e : sameM (dKV B.docs) (dKV C.docs) = true) : B.docs = C.docs := by
  have key : ∀ ds : List DocV, (dKV ds).map (·.1) = ds.map (·.t) := fun ds => by unfold dKV; rw [List.map_map]; rfl
  have nB : ((dKV B.docs).map (·.1)).Nodup := by rw [key]; exact h.bi.ex.bk.nodup
  have nC : ((dKV C.docs).map (·.1)).Nodup := by rw [key]; exact g.bi.ex.bk.nodup
  have p := sameM_perm2 nB nC e
  have hl : B.docs.length = C.docs.length := by
    have := p.length_eq
    unfold dKV at this
    rw [List.length_map, List.length_map] at this; exact this
  apply List.ext_getElem hl
  intro i h1 h2
  have t1 := h.bi.ex.bk.docs i _ (List.getElem?_eq_getElem h1)
  have t2 := g.bi.ex.bk.docs i _ (List.getElem?_eq_getElem h2)
  have m1 : ((B.docs[i]).t, B.docs[i]) ∈ dKV C.docs := p.mem_iff.1 (List.mem_map_of_mem (f := fun d : DocV => (d.t, d)) (List.getElem_mem h1))
  have m2 : ((C.docs[i]).t, C.docs[i]) ∈ dKV C.docs := List.mem_map_of_mem (f := fun d : DocV => (d.t, d)) (List.getElem_mem h2)
  rw [t1, es] at m1
  rw [t2] at m2
  have k1 := lkt_of nC m1
  rw [lkt_of nC m2] at k1
  injection k1 with k1
  exact k1.symm
theorem sameB_eq (h : Good G B L R) (g : Good H C M S) : sameB B C = refEqB L M R S := by
  have pB := perm_of_lkt h.rel.ownN h.no h.rel.own
  have pC := perm_of_lkt g.rel.ownN g.no g.rel.own
  by_cases e : RefEq L M R S
  · rw [refEqB_yes e]
    have ed : B.docs = C.docs := by rw [← h.docs, ← g.docs]; exact e.docs
    unfold sameB
    have n1 : ((dKV C.docs).map (·.1)).Nodup := by
      have key : ∀ ds : List DocV, (dKV ds).map (·.1) = ds.map (·.t) := fun ds => by unfold dKV; rw [List.map_map]; rfl
      rw [key]; exact g.bi.ex.bk.nodup
    rw [ed, sameM_self n1, sameM_of_perm g.no (pB.symm.trans (e.owns ▸ pC)), sameM_of_perm g.nh (perm_of_lkt h.nh g.nh fun k => by rw [← h.rel.held, ← g.rel.held, e.helds])]
    rw [← h.rel.self, ← g.rel.self, ← h.rel.n, ← g.rel.n, e.self, e.n]
    simp
  · rw [refEqB_no e]
    cases hs : sameB B C with
    | false => rfl
    | true =>
      exfalso
      apply e
      unfold sameB at hs
      simp only [Bool.and_eq_true, decide_eq_true_eq] at hs
      obtain ⟨e1, e2, e3, e4, e5⟩ := hs
      have po := sameM_perm2 h.no g.no e4
      have ph := sameM_perm2 h.nh g.nh e5
      have ko : R.owns.map (·.1) = S.owns.map (·.1) := sortK_eq h.ky.so g.ky.so (((pB.trans po).trans pC.symm).map (·.1))
      have kh : R.helds.map (·.1) = S.helds.map (·.1) := by
        rw [h.rel.keys, g.rel.keys]
        exact sortBy_eq swoK totK (ph.map (·.1))
      refine ⟨by rw [h.rel.self, g.rel.self, e1], by rw [h.rel.n, g.rel.n, e2], by rw [h.docs, g.docs, docs_eq h g e1 e3], eq_of_keys ko h.rel.ownN fun k => ?_, eq_of_keys kh ?_ fun k => ?_⟩
      · rw [h.rel.own, g.rel.own]; exact lkt_perm h.no po k
      · rw [h.rel.keys]; exact h.keysN
      · rw [h.rel.held, g.rel.held]; exact lkt_perm h.nh ph k
end
end Go.Proofs.YtmhbpifhpolghaaGreat
end
section
namespace Go.Sx
open Go.RowKit Go.Lib Go.Tk Go.Shelf Go.Vc
theorem elt_sto {P : Program} {E size n : Nat} {xs : List Value} {t b j : Nat} {u : Value} (ht : (P.info? t).map (·.size) = some 1) (hc : u.cells = #[u]) (h1 : u.oneCell' = true) (hl : b + j + 1 ≤ xs.length) :
    OpG P (isSto t) stoXY [.elt 0 0 0 b j, .val u] [] [((0, 0), .row E size n (.shal xs) [])] (.val undef) [((0, 0), .row E size n (.shal (over xs.toArray (b + j) [u]).toList) [])] := by
  intro o ho
  unfold isSto at ho
  split at ho <;> try (cases ho; done)
  rename_i t' x y hop
  have e1 := Nat.eq_of_beq_eq_true ho
  subst e1
  have hx' : stoXY o = [x, y] := by unfold stoXY; rw [hop]
  rw [hx']
  refine ⟨fun z hz => by rw [hop]; simp [Op.operands]; simpa using hz, fun ε ρ R w hx hM => ?_⟩
  simp only [List.map_cons, List.map_nil, SV.dens, SV.den, List.cons.injEq, and_true] at hx
  have hM : Mem (rowC E size (asSl (ε 0 0).2) n xs :: R) w := hM
  have hrow := hM.owns 0 rfl
  have ha : adOf (asSl (ε 0 0).2) = adOf (ε 0 0).2 := by
    obtain ⟨hlen, ⟨h1', h2⟩ | ⟨g, cap, cur, hv, -⟩⟩ := hrow
    · subst h2; simp at hlen; rw [hlen] at hl; simp at hl
    · cases h : (ε 0 0).2 <;> rw [h] at hv <;> first | rfl | (unfold asSl at hv; cases hv)
  obtain ⟨w', hr, hm⟩ := Mem.storeRow (P := P) hM 0 rfl t (b + j) u [u] hc ht hl (by simp [h1]) (by omega)
  rw [ha] at hr
  refine res_st (x_store hop (hx.1.trans (by simp [Nat.add_assoc])) hx.2 hr) ⟨fun _ => (0, undef), by simp only [SV.den], ?_⟩
  have e0 : eset ε 1 (fun _ => (0, undef)) 0 0 = ε 0 0 := by rw [eset_ne (by decide)]
  show Mem (rowC E size (asSl (eset ε 1 (fun _ => (0, undef)) 0 0).2) n (over xs.toArray (b + j) [u]).toList :: R) w'
  rw [e0]
  exact hm
theorem over_len (xs : List Value) (i : Nat) (u : Value) (h : i + 1 ≤ xs.length) : (over xs.toArray i [u]).toList.length = xs.length := by
  unfold over; simp [List.length_take]; omega
end Go.Sx
namespace Go.Proofs.YtmhbpifhpolghaaGreat
open Go.RowKit Go.Lib Go.Tk Go.Shelf Go.Vc Go.Sx
theorem st15_w {l : List Int} (hl : l.length ≤ 1000000000) : CallOK Tryz.prog StatusesF [.raw 0 0, .raw 0 1] [((0, 0), stC l), ((0, 1), stC l)] [] (.val (.bool true)) [] := by
  have n0 : (!decide ((l.length : Int) = (l.length : Int))) = false := by simp
  refine callOK_intro (by kernel_rfl) fun eb R0 => ?_
  refine go_loop (X := { i : Nat // i ≤ l.length }) 0 [] (fun y => ([(0, .raw 0 0), (1, .raw 0 1), (5, .val (.int .i64 (y.1 : Int)))], [((0, 0), stC l), ((0, 1), stC l)])) (fun y => l.length - y.1) ⟨0, Nat.zero_le _⟩ calNone false 400 [hB 1 4 _ _ n0] calNone_ok (by kernel_rfl) ?_
  rintro ⟨i, hi⟩ J hJ
  by_cases h : i < l.length
  · have z0 : decide ((i : Int) < (l.length : Int)) = true := decide_eq_true (by omega)
    have z9 : IntKind.i64.wrap ((i : Int) + 1) = ((i + 1 : Nat) : Int) := by rw [wr_i64 (by omega)]; omega
    have q1 := load_eltG (P := Tryz.prog) (t := 49) (cs := [.val (.int .u8 (l.getD i 0))]) (n := l.length) (p := 0) (j := 0) (b := i * 1) (E := 49) (size := 1) (u := .val (.int .u8 (l.getD i 0))) (xs := l.map (.int .u8)) (by kernel_rfl) (fun ε q v hq => by
      cases q with
      | succ q => cases hq
      | zero =>
        cases hq
        rw [Nat.mul_one, Nat.add_zero, List.getElem?_map, getD_some h 0]; rfl)
    have hJ' := hJ ⟨i + 1, h⟩ (by show _ - (i + 1) < _ - i; omega)
    clear hJ n0
    generalize l.getD i 0 = x at *
    have f0 : (!decide (x = x)) = false := by simp
    exact leaf_round (lpK Tryz.prog StatusesF 0 []) false 400 [hB 4 3 _ _ z0, .opt 6 2 (.at_ 0 _ _ _ ⟨rfl, h⟩), hG 6 3 q1, .opt 6 6 (.at_ 0 _ _ _ ⟨rfl, h⟩), hG 6 7 q1, hB 6 8 _ _ f0, hI 5 1 IntKind.i64 _ _ z9] hJ' (by kernel_rfl)
  · have he : i = l.length := by omega
    have z0 : decide ((i : Int) < (l.length : Int)) = false := decide_eq_false (by omega)
    clear hJ n0
    exact leaf_end calNone false 400 [hB 4 3 _ _ z0] calNone_ok (by kernel_rfl)
theorem rdocs_raw (G : CF) {d e : DocV} {b : DocA} (ok : SaleOk d.s) (ok' : SaleOk e.s) (hv : d.vals.length ≤ 1073741824) (hv' : e.vals.length ≤ 1073741824) (r : DocRdG G e b) :
    CallOK Tryz.prog RDocsF [docRaw d, .agg (docSA e b)] (docI d ++ [((0, 9), .fam G)]) [] (.val (.bool (decide (d = e)))) [] :=
  rawF (args := fun x y z => [.agg (docS d x y z), .agg (docSA e b)]) (fun ε x y z x' y' z' h1 h2 h3 => by simp only [SV.dens, SV.den, docS, h1, h2, h3]) fun H a hE hR _ => rdocsG H ok ok' hv hv' hR (r.ext hE)
def TellsF : Nat := 20
def tlRd (G : CF) (R : RefV) (L : List (DocV × DocA)) : Heap := rfM (rdQ L) R (0, 20) (0, 21) (0, 22) (0, 23) ++ [((0, 9), .fam G)]
def tlH (G : CF) (B : BookV) (R : RefV) (L : List (DocV × DocA)) : Heap := tlRd G R L ++ bkC B
def tlSl : Slots := [(0, .ptr 0 0 0), (1, .ptr 0 20 0)]
section
variable (G : CF) {B : BookV} {R : RefV} {L : List (DocV × DocA)}
theorem Good.bo (h : Good G B L R) : B.owns.length ≤ 1000 := by
  have := (perm_of_lkt h.rel.ownN h.no h.rel.own).length_eq
  have := h.ri.ho
  have := h.ri.hd
  omega
theorem tells_open (h : Good G B L R) {eb : Env} {R0 : List Chunk} : Go Tryz.prog TellsF (.val (.bool true)) (tlRd G R L ++ bkC B) eb R0 .nrm (rgK Tryz.prog TellsF 38 []) tlSl (tlH G B R L) := by
  refine go_loop (X := { i : Nat // i ≤ 9 }) 5 [] (fun y => (tlSl ++ [(26, .val (.int .i64 (y.1 : Int)))], tlH G B R L)) (fun y => 9 - y.1) ⟨0, Nat.zero_le _⟩ calNone false 400 [] calNone_ok (by kernel_rfl) ?_
  rintro ⟨i, hi⟩ J hJ
  by_cases hl : i < 9
  · have z0 : decide ((i : Int) < 9) = true := decide_eq_true (by omega)
    have z1 : IntKind.u8.wrap (i : Int) = (i : Int) := wr_u8 (by omega)
    have c1 := open_c B (i : Int) h.bo (by have := h.bi.hl; omega)
    have c2 := ropen_w (rdQ L) R (i : Int) h.own_n h.held_n
    rw [open_eq h.rel h.no h.nh] at c2
    have n1 : (!decide ((openN B (i : Int) : Int) = (openN B (i : Int) : Int))) = false := by simp
    have z9 : IntKind.i64.wrap ((i : Int) + 1) = ((i + 1 : Nat) : Int) := by rw [wr_i64 (by omega)]; omega
    have hJ' := hJ ⟨i + 1, hl⟩ (by show _ - (i + 1) < _ - i; omega)
    clear hJ h
    generalize openN B (i : Int) = m at *
    exact leaf_round (lpK Tryz.prog TellsF 5 []) false 400 [hB 39 1 _ _ z0, hI 41 2 IntKind.u8 _ _ z1, hC 41 3 c1, hI 41 6 IntKind.u8 _ _ z1, hC 41 7 c2, hB 41 8 _ _ n1, hI 40 1 IntKind.i64 _ _ z9] hJ' (by kernel_rfl)
  · have he : i = 9 := by omega
    subst he
    clear hJ h
    exact leaf_end calNone false 400 [] calNone_ok (by kernel_rfl)
theorem tIx_lk (h : Good G B L R) (t : Tid) : (tIx L t = -1 ∧ lkD B.docs t = none) ∨ ∃ (i : Nat) (p : DocV × DocA), tIx L t = (i : Int) ∧ L[i]? = some p ∧ p.1.t = t ∧ lkD B.docs t = some p.1 := by
  rcases tIx_cases L t with ⟨e, hn⟩ | ⟨i, p, e, hp, ht⟩
  · refine .inl ⟨e, ?_⟩
    cases hd : lkD B.docs t with
    | none => rfl
    | some d =>
      obtain ⟨h1, h2⟩ := lkD_mem hd
      rw [← h.docs] at h1
      obtain ⟨p, hp, rfl⟩ := List.mem_map.1 h1
      exact absurd h2 (hn p hp)
  · refine .inr ⟨i, p, e, hp, ht, ?_⟩
    have := lkD_mem_eq h.bi.ex.bk.nodup (h.mem (List.mem_of_getElem? hp))
    rw [ht] at this
    exact this
theorem tells_ex (h : Good G B L R) {k : Kid} (hk : KidOk k) {eb : Env} {R0 : List Chunk} : Go Tryz.prog TellsF (.val (.bool true)) (tlRd G R L ++ bkC B) eb R0 .nrm (rgK Tryz.prog TellsF 33 []) (tlSl ++ [(5, .ptr 1 0 0)]) (tlH G B R L ++ [((1, 0), .box none (kidS k))]) := by
  have fin := tells_open G h (eb := eb) (R0 := R0)
  have c1 := own_c B hk
  have c2 := held_c B hk
  have c3 := rown_w (rdQ L) R k (by have := h.own_n; omega)
  have c4 := rheld_w (rdQ L) R k (by have := h.held_n; omega)
  have c5 := rdoc_w L R k.t (by have := h.l32; omega)
  have one : decide ((0 : Int) ≤ -1) = false := by decide
  rcases rIx_lkt R.owns k with ⟨a1, a2⟩ | ⟨ia, za, a1, -, a2⟩ <;> rcases rIx_lkt R.helds k with ⟨b1, b2⟩ | ⟨ib, zb, b1, -, b2⟩ <;> rcases tIx_lk G h k.t with ⟨d1, d2⟩ | ⟨ic, zc, d1, hp, -, d2⟩ <;> rw [h.rel.own] at a2 <;> rw [h.rel.held] at b2 <;> rw [a2] at c1 <;> rw [b2] at c2 <;> rw [a1] at c3 <;> rw [b1] at c4 <;> rw [d1] at c5
  · have c6 := doc_no hk.1 d2
    clear a1 a2 b1 b2 d1 d2 h
    exact leaf_cut (rgK Tryz.prog TellsF 38 []) _ _ calNone false 400 [hC 33 2 c1, hC 34 2 c2, hC 35 3 c6, hC 36 4 c3, hC 36 12 c4, hC 36 22 c5, .stop 38] calNone_ok (by kernel_rfl) fin
  · have c6 := doc_ok hk.1 d2 (h.bi.ex.sm _ (h.mem (List.mem_of_getElem? hp)))
    have y3 : decide ((0 : Int) ≤ (ic : Int)) = true := decide_eq_true (by omega)
    clear a1 a2 b1 b2 d1 d2 h hp
    exact leaf_cut (rgK Tryz.prog TellsF 38 []) _ _ calNone false 400 [hC 33 2 c1, hC 34 2 c2, hC 35 3 c6, hC 36 4 c3, hC 36 12 c4, hC 36 22 c5, .stop 38] calNone_ok (by kernel_rfl) fin
  · have c6 := doc_no hk.1 d2
    have y2 : decide ((0 : Int) ≤ (ib : Int)) = true := decide_eq_true (by omega)
    clear a1 a2 b1 b2 d1 d2 h
    exact leaf_cut (rgK Tryz.prog TellsF 38 []) _ _ calNone false 400 [hC 33 2 c1, hC 34 2 c2, hC 35 3 c6, hC 36 4 c3, hC 36 12 c4, hC 36 22 c5, .stop 38] calNone_ok (by kernel_rfl) fin
  · have c6 := doc_ok hk.1 d2 (h.bi.ex.sm _ (h.mem (List.mem_of_getElem? hp)))
    have y2 : decide ((0 : Int) ≤ (ib : Int)) = true := decide_eq_true (by omega)
    have y3 : decide ((0 : Int) ≤ (ic : Int)) = true := decide_eq_true (by omega)
    clear a1 a2 b1 b2 d1 d2 h hp
    exact leaf_cut (rgK Tryz.prog TellsF 38 []) _ _ calNone false 400 [hC 33 2 c1, hC 34 2 c2, hC 35 3 c6, hC 36 4 c3, hC 36 12 c4, hC 36 22 c5, .stop 38] calNone_ok (by kernel_rfl) fin
  · have c6 := doc_no hk.1 d2
    have y1 : decide ((0 : Int) ≤ (ia : Int)) = true := decide_eq_true (by omega)
    clear a1 a2 b1 b2 d1 d2 h
    exact leaf_cut (rgK Tryz.prog TellsF 38 []) _ _ calNone false 400 [hC 33 2 c1, hC 34 2 c2, hC 35 3 c6, hC 36 4 c3, hC 36 12 c4, hC 36 22 c5, .stop 38] calNone_ok (by kernel_rfl) fin
  · have c6 := doc_ok hk.1 d2 (h.bi.ex.sm _ (h.mem (List.mem_of_getElem? hp)))
    have y1 : decide ((0 : Int) ≤ (ia : Int)) = true := decide_eq_true (by omega)
    have y3 : decide ((0 : Int) ≤ (ic : Int)) = true := decide_eq_true (by omega)
    clear a1 a2 b1 b2 d1 d2 h hp
    exact leaf_cut (rgK Tryz.prog TellsF 38 []) _ _ calNone false 400 [hC 33 2 c1, hC 34 2 c2, hC 35 3 c6, hC 36 4 c3, hC 36 12 c4, hC 36 22 c5, .stop 38] calNone_ok (by kernel_rfl) fin
  · have c6 := doc_no hk.1 d2
    have y1 : decide ((0 : Int) ≤ (ia : Int)) = true := decide_eq_true (by omega)
    have y2 : decide ((0 : Int) ≤ (ib : Int)) = true := decide_eq_true (by omega)
    clear a1 a2 b1 b2 d1 d2 h
    exact leaf_cut (rgK Tryz.prog TellsF 38 []) _ _ calNone false 400 [hC 33 2 c1, hC 34 2 c2, hC 35 3 c6, hC 36 4 c3, hC 36 12 c4, hC 36 22 c5, .stop 38] calNone_ok (by kernel_rfl) fin
  · have c6 := doc_ok hk.1 d2 (h.bi.ex.sm _ (h.mem (List.mem_of_getElem? hp)))
    have y1 : decide ((0 : Int) ≤ (ia : Int)) = true := decide_eq_true (by omega)
    have y2 : decide ((0 : Int) ≤ (ib : Int)) = true := decide_eq_true (by omega)
    have y3 : decide ((0 : Int) ≤ (ic : Int)) = true := decide_eq_true (by omega)
    clear a1 a2 b1 b2 d1 d2 h hp
    exact leaf_cut (rgK Tryz.prog TellsF 38 []) _ _ calNone false 400 [hC 33 2 c1, hC 34 2 c2, hC 35 3 c6, hC 36 4 c3, hC 36 12 c4, hC 36 22 c5, .stop 38] calNone_ok (by kernel_rfl) fin
theorem tells_keys (h : Good G B L R) {k : Kid} (hk : KidOk k) {eb : Env} {R0 : List Chunk} : Go Tryz.prog TellsF (.val (.bool true)) (tlRd G R L ++ bkC B) eb R0 .nrm (rgK Tryz.prog TellsF 24 []) (tlSl ++ [(5, .ptr 1 0 0)]) (tlH G B R L ++ [((1, 0), .box none (kidS k))]) := by
  have fin := tells_ex G h hk (eb := eb) (R0 := R0)
  have c2 := keys_c (B := B) (by have := h.bi.hl; omega)
  have hko := h.keysOk
  have qh := q_len (P := Tryz.prog) (E := 124) (size := 13) (enc := otherC) R.helds
  have n2 : (!decide (((keysL B).length : Int) = (R.helds.length : Int))) = false := by rw [keysL_len, h.rel.hlen]; simp
  have hat : ∀ j (hj : j < (keysL B).length), ∃ v, R.helds[j]? = some ((keysL B).getD j kid0, v) ∧ (lkt B.helds ((keysL B).getD j kid0)) = some v := fun j hj => by
    have hkl : j < R.helds.length := by
      have := congrArg List.length h.rel.keys
      rw [List.length_map] at this
      omega
    have e1 : (R.helds.map (·.1))[j]? = some ((keysL B).getD j kid0) := by rw [h.rel.keys]; exact getD_some hj kid0
    rw [List.getElem?_map, List.getElem?_eq_getElem hkl] at e1
    have e2 : R.helds[j].1 = (keysL B).getD j kid0 := by simpa using e1
    refine ⟨R.helds[j].2, by rw [List.getElem?_eq_getElem hkl, ← e2], ?_⟩
    rw [← h.rel.held, ← e2]
    exact lkt_of (by rw [h.rel.keys]; exact h.keysN) (by exact List.getElem_mem hkl)
  have hlen : R.helds.length = (keysL B).length := by rw [h.rel.hlen, keysL_len]
  have hl64 : (keysL B).length ≤ 64 := by rw [keysL_len]; exact h.bi.hl
  clear h
  generalize keysL B = l at *
  refine go_loop (X := { j : Nat // j ≤ l.length }) 4 [] (fun y => (tlSl ++ [(5, .ptr 1 0 0), (16, .raw 1 2), (17, .val (.int .i64 (y.1 : Int)))], tlH G B R L ++ [((1, 0), .box none (kidS k)), ((1, 2), kidR l)])) (fun y => l.length - y.1) ⟨0, Nat.zero_le _⟩ calNone false 400 [hC 24 1 c2, hG 25 6 qh, hB 25 7 _ _ n2] calNone_ok (by kernel_rfl) ?_
  clear qh n2 c2
  rintro ⟨j, hj⟩ J hJ
  by_cases hl : j < l.length
  · have z0 : decide ((j : Int) < (l.length : Int)) = true := decide_eq_true (by omega)
    have ho := hko _ (List.mem_of_getElem? (getD_some hl kid0))
    obtain ⟨v, hv1, hv2⟩ := hat j hl
    have q1 := load_eltG (P := Tryz.prog) (t := 44) (cs := kidS (l.getD j kid0)) (n := l.length) (p := 0) (j := 0) (b := j * 3) (E := 44) (size := 3) (u := .agg (kidS (l.getD j kid0))) (xs := cellsL kcL l) (by kernel_rfl) (cells_nth (enc := kcL) (encS := kidS) (fun _ _ => rfl) (fun _ => rfl) (getD_some hl kid0))
    have c3 := held_c B ho
    rw [hv2] at c3
    have q2 := hidx R.helds (i := j) (by omega)
    have q3 := hload R.helds hv1 (t := 44) (j := 0) (u := .agg (kidS (l.getD j kid0))) (by kernel_rfl)
    have q4 := hload R.helds hv1 (t := 55) (j := 3) (u := .agg (heldS v)) (by kernel_rfl)
    have z9 : IntKind.i64.wrap ((j : Int) + 1) = ((j + 1 : Nat) : Int) := by rw [wr_i64 (by omega)]; omega
    have hJ' := hJ ⟨j + 1, hl⟩ (by show _ - (j + 1) < _ - j; omega)
    clear hJ hat hv1 hv2 fin hko ho
    generalize l.getD j kid0 = key at *
    have f1 : (!kidEq key key) = false := by rw [(kidEq_iff _ _).2 rfl]; rfl
    have f2 : (!heldEq v v) = false := by rw [(heldEq_iff _ _).2 rfl]; rfl
    unfold kidEq at f1
    unfold heldEq cpnEq legEq at f2
    exact leaf_round (lpK Tryz.prog TellsF 4 []) false 400 [hB 28 3 _ _ z0, .opt 30 3 (.at_ 0 _ _ _ ⟨rfl, hl⟩), hG 30 4 q1, hC 30 5 c3, .opt 31 2 (.at_ 0 _ _ _ ⟨rfl, hl⟩), hG 31 3 q1, hG 31 9 q2, hG 31 11 q3, hB 31 12 _ _ f1, hG 31 24 q2, hG 31 26 q4, hB 31 27 _ _ f2, hI 29 1 IntKind.i64 _ _ z9] hJ' (by kernel_rfl)
  · have he : j = l.length := by omega
    subst he
    have z0 : decide ((l.length : Int) < (l.length : Int)) = false := decide_eq_false (by omega)
    clear hJ hat hko
    exact leaf_cut (rgK Tryz.prog TellsF 33 []) _ _ calNone false 400 [hB 28 3 _ _ z0, .stop 33] calNone_ok (by kernel_rfl) fin
theorem tells_owns (h : Good G B L R) {k : Kid} (hk : KidOk k) {eb : Env} {R0 : List Chunk} : Go Tryz.prog TellsF (.val (.bool true)) (tlRd G R L ++ bkC B) eb R0 .nrm (rgK Tryz.prog TellsF 18 []) (tlSl ++ [(5, .ptr 1 0 0)]) (tlH G B R L ++ [((1, 0), .box none (kidS k))]) := by
  have fin := tells_keys G h hk (eb := eb) (R0 := R0)
  have hn := h.own_n
  have hrel := h.rel
  clear h
  have ql := q_len (P := Tryz.prog) (E := 71) (size := 13) (enc := mineC) R.owns
  refine go_loop (X := { j : Nat // j ≤ R.owns.length }) 3 [] (fun y => (tlSl ++ [(5, .ptr 1 0 0), (13, .val (.int .i64 (y.1 : Int)))], tlH G B R L ++ [((1, 0), .box none (kidS k))])) (fun y => R.owns.length - y.1) ⟨0, Nat.zero_le _⟩ calNone false 400 [] calNone_ok (by kernel_rfl) ?_
  rintro ⟨j, hj⟩ J hJ
  by_cases hl : j < R.owns.length
  · have z0 : decide ((j : Int) < (R.owns.length : Int)) = true := decide_eq_true (by omega)
    have hx := List.getElem?_eq_getElem hl
    have hin : R.owns[j] ∈ R.owns := List.getElem_mem hl
    have hv : lkt B.owns R.owns[j].1 = some R.owns[j].2 := by rw [← hrel.own]; exact lkt_of hrel.ownN hin
    have ho := (hrel.ownK _ hin).1
    have z9 : IntKind.i64.wrap ((j : Int) + 1) = ((j + 1 : Nat) : Int) := by rw [wr_i64 (by omega)]; omega
    have hJ' := hJ ⟨j + 1, hl⟩ (by show _ - (j + 1) < _ - j; omega)
    clear hJ fin hrel
    generalize R.owns[j] = x at *
    obtain ⟨key, v⟩ := x
    have c3 := own_c B ho
    rw [hv] at c3
    have q2 := oidx R.owns (i := j) hl
    have q3 := oload R.owns hx (t := 44) (j := 0) (u := .agg (kidS key)) (by kernel_rfl)
    have q4 := oload R.owns hx (t := 53) (j := 3) (u := .agg (ownS v)) (by kernel_rfl)
    have f2 : (!ownEq v v) = false := by rw [(ownEq_iff _ _).2 rfl]; rfl
    unfold ownEq cpnEq legEq at f2
    clear hx hin hv ho
    exact leaf_round (lpK Tryz.prog TellsF 3 []) false 400 [hG 19 5 ql, hB 19 6 _ _ z0, hG 21 6 q2, hG 21 8 q3, hC 21 9 c3, hG 22 9 q2, hG 22 11 q4, hB 22 12 _ _ f2, hI 20 1 IntKind.i64 _ _ z9] hJ' (by kernel_rfl)
  · have he : j = R.owns.length := by omega
    subst he
    have z0 : decide ((R.owns.length : Int) < (R.owns.length : Int)) = false := decide_eq_false (by omega)
    clear hJ
    exact leaf_cut (rgK Tryz.prog TellsF 24 []) _ _ calNone false 400 [hG 19 5 ql, hB 19 6 _ _ z0, .stop 24] calNone_ok (by kernel_rfl) fin
end
section
variable (G : CF) {B : BookV} {R : RefV} {L : List (DocV × DocA)}
def tdSl (i : Nat) : Slots := tlSl ++ [(5, .ptr 1 0 0), (7, .raw 1 1), (8, .val (.int .i64 (i : Int)))]
def tdH (G : CF) (B : BookV) (R : RefV) (L : List (DocV × DocA)) (k : Kid) (ts : List Tid) : Heap := tlH G B R L ++ [((1, 0), .box none (kidS k)), ((1, 1), tidR ts)]
theorem tells_over {k : Kid} {ts : List Tid} {i : Nat} (hi : i ≤ 1000) {d : DocV} (sm : DocSmall d) {eb : Env} {R0 : List Chunk} {J : Act → World → Prop}
    (hJ : ∀ ε a' w, Rel (ntOf Tryz.prog TellsF) 1 eb R0 ⟨tdSl (i + 1), tdH G B R L k ts, 2⟩ ε a' w → J a' w) :
    Go Tryz.prog TellsF (.val (.bool true)) (tlRd G R L ++ bkC B) eb R0 .nrm (rgK Tryz.prog TellsF 10 [J]) (tdSl i ++ [(9, .ptr 1 5 0)]) (tdH G B R L k ts ++ [((1, 5), .box none (docS d (.raw 1 10) (.raw 1 11) (.raw 1 12))), ((1, 10), legR d.s.legs.length d.s.legs), ((1, 12), i64R d.vals.length d.vals)]) := by
  have z8 : IntKind.i64.wrap ((i : Int) + 1) = ((i + 1 : Nat) : Int) := by rw [wr_i64 (by omega)]; omega
  have nv := sm.nv
  have nl := sm.nl
  refine go_loop (X := { y : Nat × List Value // y.1 ≤ d.vals.length ∧ y.2.length = d.vals.length }) 1 [J] (fun y => (tdSl i ++ [(9, .ptr 1 5 0), (11, .val (.int .i64 (y.1.1 : Int)))], tdH G B R L k ts ++ [((1, 5), .box none (docS d (.raw 1 10) (.raw 1 11) (.raw 1 12))), ((1, 10), legR d.s.legs.length d.s.legs), ((1, 12), .row 2 1 d.vals.length (.shal y.1.2) [])])) (fun y => d.vals.length - y.1.1) ⟨(0, d.vals.map (.int .i64)), Nat.zero_le _, by simp⟩ calNone false 400 [] calNone_ok (by kernel_rfl) ?_
  rintro ⟨⟨j, xs⟩, hj, hxs⟩ J1 hJ1
  dsimp only at hj hxs
  by_cases h : j < d.vals.length
  · have z0 : decide ((j : Int) < (d.vals.length : Int)) = true := decide_eq_true (by omega)
    have z9 : IntKind.i64.wrap ((j : Int) + 1) = ((j + 1 : Nat) : Int) := by rw [wr_i64 (by omega)]; omega
    have q1 := elt_sto (P := Tryz.prog) (E := 2) (size := 1) (n := d.vals.length) (xs := xs) (t := 2) (b := j * 1) (j := 0) (u := .int .i64 (-7)) (by kernel_rfl) rfl rfl (by omega)
    have hJ1' : ∀ ε a' w, Rel (ntOf Tryz.prog TellsF) 1 eb R0 ⟨tdSl i ++ [(9, .ptr 1 5 0), (11, .val (.int .i64 ((j + 1 : Nat) : Int)))], tdH G B R L k ts ++ [((1, 5), .box none (docS d (.raw 1 10) (.raw 1 11) (.raw 1 12))), ((1, 10), legR d.s.legs.length d.s.legs), ((1, 12), .row 2 1 d.vals.length (.shal (over xs.toArray (j * 1 + 0) [.int .i64 (-7)]).toList) [])], 2⟩ ε a' w → J1 a' w := hJ1 ⟨(j + 1, (over xs.toArray (j * 1 + 0) [.int .i64 (-7)]).toList), h, by rw [over_len _ _ _ (by omega)]; exact hxs⟩ (by show _ - (j + 1) < _ - j; omega)
    clear hJ hJ1
    exact leaf_round (lpK Tryz.prog TellsF 1 [J]) false 400 [hB 11 4 _ _ z0, .opt 13 3 (.at_ 0 _ _ _ ⟨rfl, h⟩), hG 13 4 q1, hI 12 1 IntKind.i64 _ _ z9] hJ1' (by kernel_rfl)
  have z0 : decide ((j : Int) < (d.vals.length : Int)) = false := decide_eq_false (by omega)
  clear hJ1
  refine go_loop (X := { y : Nat × List Value // y.1 ≤ d.s.legs.length ∧ y.2.length = d.s.legs.length * 3 }) 2 [J] (fun y => (tdSl i ++ [(9, .ptr 1 5 0), (12, .val (.int .i64 (y.1.1 : Int)))], tdH G B R L k ts ++ [((1, 5), .box none (docS d (.raw 1 10) (.raw 1 11) (.raw 1 12))), ((1, 10), .row 48 3 d.s.legs.length (.shal y.1.2) [])])) (fun y => d.s.legs.length - y.1.1) ⟨(0, cellsL encLeg d.s.legs), Nat.zero_le _, cellsL_len encLeg_len _⟩ calNone false 400 [hB 11 4 _ _ z0] calNone_ok (by kernel_rfl) ?_
  clear z0 h hj hxs
  rintro ⟨⟨q, ys⟩, hq, hys⟩ J2 hJ2
  dsimp only at hq hys
  by_cases h : q < d.s.legs.length
  · have z0 : decide ((q : Int) < (d.s.legs.length : Int)) = true := decide_eq_true (by omega)
    have z9 : IntKind.i64.wrap ((q : Int) + 1) = ((q + 1 : Nat) : Int) := by rw [wr_i64 (by omega)]; omega
    have q1 := elt_sto (P := Tryz.prog) (E := 48) (size := 3) (n := d.s.legs.length) (xs := ys) (t := 45) (b := q * 3) (j := 1) (u := .int .u16 9999) (by kernel_rfl) rfl rfl (by omega)
    have hJ2' : ∀ ε a' w, Rel (ntOf Tryz.prog TellsF) 1 eb R0 ⟨tdSl i ++ [(9, .ptr 1 5 0), (12, .val (.int .i64 ((q + 1 : Nat) : Int)))], tdH G B R L k ts ++ [((1, 5), .box none (docS d (.raw 1 10) (.raw 1 11) (.raw 1 12))), ((1, 10), .row 48 3 d.s.legs.length (.shal (over ys.toArray (q * 3 + 1) [.int .u16 9999]).toList) [])], 2⟩ ε a' w → J2 a' w := hJ2 ⟨(q + 1, (over ys.toArray (q * 3 + 1) [.int .u16 9999]).toList), h, by rw [over_len _ _ _ (by omega)]; exact hys⟩ (by show _ - (q + 1) < _ - q; omega)
    clear hJ hJ2
    exact leaf_round (lpK Tryz.prog TellsF 2 [J]) false 400 [hB 15 5 _ _ z0, .opt 17 4 (.at_ 0 _ _ _ ⟨rfl, h⟩), hG 17 6 q1, hI 16 1 IntKind.i64 _ _ z9] hJ2' (by kernel_rfl)
  · have z0 : decide ((q : Int) < (d.s.legs.length : Int)) = false := decide_eq_false (by omega)
    clear hJ2
    exact leaf_round (lpK Tryz.prog TellsF 0 []) false 400 [hB 15 5 _ _ z0, hI 6 1 IntKind.i64 _ _ z8] hJ (by kernel_rfl)
theorem tells_o (h : Good G B L R) {k : Kid} (hk : KidOk k) : CallOK Tryz.prog TellsF [.ptr 0 0 0, .ptr 0 20 0, .agg (kidS k)] (tlRd G R L) (bkC B) (.val (.bool true)) (bkC B) := by
  have c1 := tickets_c h.bi.ex.bk
  have c2 := self_c B
  have c3 := carr_c B
  have hm := h.bi.ex.bk.many
  have hLl := h.llen
  have lB : (B.docs.map (·.t)).length = B.docs.length := List.length_map _
  have ql := q_len (P := Tryz.prog) (E := 42) (size := 17) (enc := docL) L
  have n1 : (!decide (((B.docs.map (·.t)).length : Int) = (L.length : Int))) = false := by rw [lB, hLl]; simp
  have n2 : (!decide (B.self = R.self)) = false := by rw [h.rel.self]; simp
  have n3 : (!decide (B.n = R.n)) = false := by rw [h.rel.n]; simp
  refine callOK_intro (by kernel_rfl) fun eb R0 => ?_
  have fin := tells_owns G h hk (eb := eb) (R0 := R0)
  refine go_loop (X := { j : Nat // j ≤ B.docs.length }) 0 [] (fun y => (tdSl y.1, tdH G B R L k (B.docs.map (·.t)))) (fun y => B.docs.length - y.1) ⟨0, Nat.zero_le _⟩ calNone false 400 [hC 1 1 c1, hG 2 6 ql, hB 2 7 _ _ n1, hC 2 10 c2, hB 2 15 _ _ n2, hC 2 19 c3, hB 2 24 _ _ n3] calNone_ok (by kernel_rfl) ?_
  clear n1 n2 n3 ql c1 c2 c3
  rintro ⟨i, hi⟩ J hJ
  by_cases hl : i < B.docs.length
  · have z0 : decide ((i : Int) < ((B.docs.map (·.t)).length : Int)) = true := decide_eq_true (by omega)
    have hd0 := List.getElem?_eq_getElem hl
    have hkL : i < L.length := by omega
    have hx := List.getElem?_eq_getElem hkL
    have hin := List.getElem_mem hkL
    have e1 : B.docs[i]? = some L[i].1 := by rw [← h.docs, List.getElem?_map, hx]; rfl
    obtain ⟨s1, s2, s3⟩ := h.sal _ hin
    have hmem := h.mem hin
    have t0 := tid_docs h.bi.ex.bk hmem
    have sm := h.bi.ex.sm _ hmem
    have lk := lkD_mem_eq h.bi.ex.bk.nodup hmem
    have st := status_eq h.rel h.ky L[i].1.t
    generalize L[i] = p at *
    obtain ⟨d, a⟩ := p
    dsimp only at *
    have hkl : i < (B.docs.map (·.t)).length := by omega
    have q1 := load_eltG (P := Tryz.prog) (t := 39) (cs := tidS d.t) (n := (B.docs.map (·.t)).length) (p := 0) (j := 0) (b := i * 2) (E := 39) (size := 2) (u := .agg (tidS d.t)) (by kernel_rfl) (tid_nth (tids_get e1))
    have c1 := doc_ok t0 lk sm
    have q2 := q_idx (P := Tryz.prog) (t := 63) (i := i) (k := .i64) (E := 42) (size := 17) (enc := docL) L (fun _ => rfl) (by decide) (by kernel_rfl) hkL
    have q3 := q_load (P := Tryz.prog) (t := 42) (b := i * 17) (j := 0) (cs := docSA d a) (u := .agg (docSA d a)) (E := 42) (size := 17) (enc := docL) L (by kernel_rfl) (cells_nth (enc := docL) (encS := fun x => docSA x.1 x.2) (fun _ _ => rfl) (fun _ => rfl) hx)
    have q4 := q_load (P := Tryz.prog) (t := 39) (b := i * 17) (j := 0) (cs := docSA d a) (u := .agg (tidS d.t)) (E := 42) (size := 17) (enc := docL) L (by kernel_rfl) (cells_nth (enc := docL) (encS := fun x => docSA x.1 x.2) (fun _ _ => rfl) (fun _ => rfl) hx)
    have c2 := rdocs_raw G (d := d) (e := d) s1 s1 s2 s2 s3
    rw [decide_eq_true rfl] at c2
    have c4 := status_c B t0
    have c5 := rstatus_w (rdQ L) R d.t h.own_n
    rw [st] at c5
    have c6 := st15_w (l := statusL B d.t) (by
      show ((coupL B d.t).map (·.k.s)).length ≤ _
      rw [List.length_map]
      rcases coupL_cases B d.t with ⟨e, -⟩ | ⟨a, e, -⟩ | ⟨a, b, e, -⟩ | ⟨a, b, c, e, -⟩ | ⟨a, b, c, x, e, -⟩ <;> rw [e] <;> simp)
    have f0 : (!rtEq d.t d.t) = false := by rw [(rtEq_iff _ _).2 rfl]; rfl
    unfold rtEq at f0
    have hov := tells_over G (B := B) (R := R) (L := L) (k := k) (ts := B.docs.map (·.t)) (i := i) (by omega) sm (hJ ⟨i + 1, hl⟩ (by show _ - (i + 1) < _ - i; omega))
    clear hJ fin h hx hin e1 s1 s2 s3 hmem t0 lk st hd0
    generalize statusL B d.t = sl at *
    exact leaf_cut (rgK Tryz.prog TellsF 10 [J]) _ _ calNone false 400 [hB 5 3 _ _ z0, .opt 7 3 (.at_ 0 _ _ _ ⟨rfl, hkl⟩), hG 7 4 q1, hC 7 5 c1, .opt 8 5 (.at_ 0 _ _ _ ⟨rfl, hkl⟩), hG 8 6 q1, hG 8 12 q2, hG 8 14 q4, hB 8 15 _ _ f0, hG 8 24 q2, hG 8 25 q3, hC 8 26 c2, .opt 8 33 (.at_ 0 _ _ _ ⟨rfl, hkl⟩), hG 8 34 q1, hC 8 35 c4, .opt 8 39 (.at_ 0 _ _ _ ⟨rfl, hkl⟩), hG 8 40 q1, hC 8 41 c5, hC 8 42 c6, .stop 10] calNone_ok (by kernel_rfl) hov
  · have he : i = B.docs.length := by omega
    subst he
    have z0 : decide ((B.docs.length : Int) < ((B.docs.map (·.t)).length : Int)) = false := decide_eq_false (by omega)
    clear hJ
    exact leaf_cut (rgK Tryz.prog TellsF 18 []) _ _ calNone false 400 [hB 5 3 _ _ z0, .stop 18] calNone_ok (by kernel_rfl) fin
end
end Go.Proofs.YtmhbpifhpolghaaGreat
end
section
namespace Go.Sx
open Go.RowKit Go.Lib Go.Tk Go.Shelf Go.Vc
theorem app_nilG {P : Program} {t t' e e' size j : Nat} {F : Nat → Value → Chunk} {a : Option Addr} {n cap : Nat} {xs : List Value} (hu : P.underlying t = some (.slice e)) (hy : P.underlying t' = some (.slice e')) (hi : infoB P e size = true)
    (hl : xs.length = n * size) (h1 : ∀ u ∈ xs, u.oneCell' = true) (hR : ∀ b v, Rd (F b v) a xs) (hn : n ≤ 1073741824) :
    OpG P (isApp P t t') lenX [.val (.slice none 0 0), .val (.slice a n cap)] [((0, j), .fam F)] [] (.raw 1 0) [((1, 0), .row e size n (.shal xs) [])] := by
  intro o ho
  obtain ⟨c, x, y, ho, hc, ha, hat, hx⟩ := isApp_of ho
  rw [hx]
  obtain ⟨i, z, hi', hz, rfl, hzs, h0, hb⟩ := infoB_of hi
  refine ⟨fun q hq => by rw [ho]; simp [Op.operands, Call.operands, hc, ha]; simpa using hq, fun ε ρ R w hx hM => ?_⟩
  simp only [List.map_cons, List.map_nil, SV.dens, SV.den, List.cons.injEq, and_true] at hx
  obtain ⟨hx, hy'⟩ := hx
  have hM : Mem (F (ε 0 j).1 (ε 0 j).2 :: R) w := hM
  have hrow : Row w a xs := (hR _ _).row hM 0 rfl
  have hS : Go.Src P i.size t' (.slice a n cap) n xs w := by
    cases a with
    | some ad => exact Go.Src.ofSlice (P := P) w hy ad n cap _ hl (fun j u' hj => by
        have hjl := (List.getElem?_eq_some_iff.1 hj).1
        obtain ⟨b, off, hab, hcell⟩ := hrow j hjl
        cases hab
        have : (Addr.add ⟨b, off, none⟩ j) = ⟨b, off + j, none⟩ := addr_add b off j
        rw [this, hcell, List.getD_eq_getElem?_getD, hj]; rfl) h1
    | none =>
      have hy0 : xs = [] := by
        cases xs with
        | nil => rfl
        | cons q l => obtain ⟨b, off, h, -⟩ := hrow 0 (by simp); cases h
      have hm0 : n = 0 := by
        have h2 : n * i.size = 0 := by rw [hy0] at hl; simpa using hl.symm
        rcases Nat.mul_eq_zero.1 h2 with h | h
        · exact h
        · omega
      subst hm0
      rw [hy0]
      exact Go.Src.ofNil (P := P) w hy cap
  have h63 : 0 + n ≤ maxLen := by simp only [maxLen]; omega
  have hA := apps_src (P := P) t t' o.type e i.size i.bytes 0 n z hu (by rw [hi']; simp [hz]) hS h63 (by
    have : n * i.bytes ≤ 1073741824 * 131072 := Nat.mul_le_mul hn hb
    rw [Nat.zero_add]; omega)
  obtain ⟨v', w', hr, hm⟩ := Mem.apps (Mem.noRow hM e i.size) 0 rfl hA hzs h63
  have hm : Mem (rowC e i.size v' (0 + n) ([] ++ xs) :: F (ε 0 j).1 (ε 0 j).2 :: R) w' := hm
  have hv' : asSl v' = v' := asSl_self (hm.owns 0 rfl)
  rw [Nat.zero_add, List.nil_append] at hm
  have hm := mem_perm (List.Perm.swap _ _ _) hm
  refine res_ok (x_append ho hc ha hat hx hy' hr) ⟨fun _ => (0, v'), by simp only [SV.den, eset_at]; exact hv'.symm, ?_⟩
  have e0 : eset ε 1 (fun _ => (0, v')) 0 j = ε 0 j := by rw [eset_ne (by decide)]
  simp only [hden, List.map_cons, List.map_nil, List.cons_append, List.nil_append, SC.den, SL.den, eset_at, hv', e0]
  exact hm
end Go.Sx
namespace Go.Proofs.YtmhbpifhpolghaaGreat
open Go.RowKit Go.Lib Go.Tk Go.Shelf Go.Vc Go.Sx
def BplF : Nat := 3
theorem rnewQ_c {self n : Int} (hs : 0 ≤ self ∧ self < n) (h1 : 2 ≤ n) (h2 : n ≤ 8) : CallOK Tryz.prog RNewF [.val (.int .u8 self), .val (.int .i64 n)] [] [] (.ptr 1 0 0) [((1, 0), .fam (refF (rdQ []) (refNew self n)))] :=
  (rnew_ok hs h1 h2).post_mono fun ε R w hM => by
    have hM : Mem (boxE none (ε 1 0).1 #[.int .u8 self, .int .i64 n, .slice none 0 0, .slice none 0 0, .slice none 0 0] :: R) w := hM
    have h3 := mem_noQ (mem_noQ (mem_noQ hM 124 13) 71 13) 42 17
    have h5 : Mem ([boxE none (ε 1 0).1 #[.int .u8 self, .int .i64 n, .slice none 0 0, .slice none 0 0, .slice none 0 0], rdQ [] 0 (.slice none 0 0), rownsF [] 0 (.slice none 0 0), rheldsF [] 0 (.slice none 0 0)] ++ R) w := h3.front 3 rfl
    exact Mem.in_ex (⟨.slice none 0 0, .slice none 0 0, .slice none 0 0⟩ : RfA) h5.in_all
structure Act15P (F : CF) (x : Act15) : Prop where
  rd : Act15Rd F x
  da : DocRdG F x.dv x.da
  sl : DocSl x.dv x.da
  dok : SaleOk x.dv.s
  sm : DocSmall x.dv
  dt : TidOk x.dv.t
theorem Act15P.ext {F G : CF} (e : ExtF F G) {x : Act15} (h : Act15P F x) : Act15P G x := ⟨⟨h.rd.ok, e _ _ h.rd.hl, e _ _ h.rd.ht, h.rd.h1, h.rd.h2, h.rd.k, h.rd.o⟩, h.da.ext e, h.sl, h.dok, h.sm, h.dt⟩
structure BpX where
  G : CF
  B : BookV
  L : List (DocV × DocA)
  R : RefV
  Bh : BookV
  Lh : List (DocV × DocA)
  Rh : RefV
structure BpOk (F : CF) (S : BpX) : Prop where
  ext : ExtF F S.G
  back : ∀ b v R w, Mem (S.G b v :: R) w → Mem (F b v :: R) w
  cur : Good S.G S.B S.L S.R
  old : Good S.G S.Bh S.Lh S.Rh
def bpZ (S : BpX) : Heap := [((0, 9), .fam S.G), ((1, 0), .fam (bookF S.B)), ((1, 2), .fam (bookF S.Bh)), ((1, 3), .fam (refF (rdQ S.Lh) S.Rh))]
def bpH (S : BpX) : Heap := rfM (rdQ S.L) S.R (1, 1) (1, 11) (1, 12) (1, 13) ++ bpZ S
def bpA (x : Act15) : Heap := [((1, 5), .box none (act15X x))]
def bpSl (a : Option Addr) (n cap i : Nat) : Slots := [(2, .val (.slice a n cap)), (7, .ptr 1 0 0), (9, .ptr 1 1 0), (10, .ptr 1 2 0), (11, .ptr 1 3 0), (12, .val (.int .i64 (i : Int)))]
def bpSlA (a : Option Addr) (n cap i : Nat) : Slots := bpSl a n cap i ++ [(13, .ptr 1 5 0)]
def bpSlT (a : Option Addr) (n cap i : Nat) : Slots := bpSl a n cap i ++ [(13, .ptr 1 5 0), (14, .val (.bool true))]
theorem refM_close {f : Nat} {ret : SV} {rp : Heap} {eb : Env} {R : List Chunk} {e : Ex} {K : List It} {sl : Slots} {D : CF} {B : RefV} {n0 n1 n2 n3 : Nm} {H : Heap} (hk : (ndB (names ((n0, SC.fam (refF D B)) :: H)) && hok (ltB 2) ((n0, SC.fam (refF D B)) :: H)) = true) (h : Go Tryz.prog f ret rp eb R e K sl ((n0, .fam (refF D B)) :: H)) : Go Tryz.prog f ret rp eb R e K sl (rfM D B n0 n1 n2 n3 ++ H) :=
  go_open (X := Unit) (fun _ => (n0, .fam (refF D B)) :: H) (fun ε w hM => ⟨(), by
    rw [hden_append, List.append_assoc] at hM
    exact rfM_shut _ _ _ _ _ _ ε _ w hM⟩) (fun _ => hk) fun _ => h
section
variable {F : CF} {a : Option Addr} {n cap i : Nat} {S : BpX} {x : Act15} {ret : SV} {rp : Heap} {eb : Env} {R0 : List Chunk} {J : Act → World → Prop}
theorem bp_tell (ok : BpOk F S) (hk : KidOk x.k) (hi : i ≤ 1000) (hJ : ∀ ε a' w, Rel (ntOf Tryz.prog BplF) 1 eb R0 ⟨bpSl a n cap (i + 1), bpH S, 2⟩ ε a' w → J a' w) :
    Go Tryz.prog BplF ret rp eb R0 .nrm (rgK Tryz.prog BplF 48 [J]) (bpSlT a n cap i) (bpH S ++ bpA x) := by
  have c1 := tells_o S.G ok.cur hk
  have z9 : IntKind.i64.wrap ((i : Int) + 1) = ((i + 1 : Nat) : Int) := by rw [wr_i64 (by omega)]; omega
  exact leaf_round (lpK Tryz.prog BplF 0 []) false 400 [hC 48 7 c1, hI 12 1 IntKind.i64 _ _ z9] hJ (by kernel_rfl)
theorem bp_own (ok : BpOk F S) (ha : Act15P S.G x) (g : x.d = 2) (hq : Go Tryz.prog BplF ret rp eb R0 .nrm (rgK Tryz.prog BplF 48 [J]) (bpSlT a n cap i) (bpH { S with B := S.B.setO x.k x.o, R := S.R.setO x.k x.o } ++ bpA x)) :
    Go Tryz.prog BplF ret rp eb R0 .nrm (rgK Tryz.prog BplF 16 [J]) (bpSlA a n cap i) (bpH S ++ bpA x) := by
  have c1 := setOwn_c S.B ha.rd.k x.o
  have c2 := rown_w (rdQ S.L) S.R x.k (by have := ok.cur.own_n; omega)
  have e0 : decide (x.d = 0) = false := decide_eq_false (by omega)
  have e1 : decide (x.d = 1) = false := decide_eq_false (by omega)
  have e2 : decide (x.d = 2) = true := decide_eq_true g
  have hl := ok.cur.rel.own x.k
  unfold RefV.setO at hq
  clear g
  rcases rIx_lkt S.R.owns x.k with ⟨e, h2⟩ | ⟨q, z, e, hq1, h2⟩ <;> rw [e] at c2 hq <;> rw [h2] at hl <;> rw [← hl] at c1
  · rw [show decide ((0 : Int) ≤ -1) = false by decide] at hq
    simp only [cond_false] at hq
    clear hl h2 e ok ha
    exact leaf_cut (rgK Tryz.prog BplF 48 [J]) _ _ calNone false 400 [hB 18 0 _ _ e0, hB 22 0 _ _ e1, hB 40 0 _ _ e2, hC 41 5 c1, hC 42 3 c2, .stop 48] calNone_ok (by kernel_rfl) hq
  · have hql := (List.getElem?_eq_some_iff.1 hq1).1
    have z0 : decide ((0 : Int) ≤ (q : Int)) = true := decide_eq_true (by omega)
    rw [z0, Int.toNat_natCast] at hq
    simp only [cond_true] at hq
    have q1 := q_idx (P := Tryz.prog) (t := 64) (i := q) (k := .i64) (E := 71) (size := 13) (enc := mineC) S.R.owns (fun _ => rfl) (by decide) (by kernel_rfl) hql
    have q2 := q_store (P := Tryz.prog) (t := 53) (b := q * 13) (j := 3) (cs := ownS x.o) (us := ownL x.o) (E := 71) (size := 13) (enc := mineC) S.R.owns (S.R.owns.set q (x.k, x.o)) (by kernel_rfl) (fun _ => rfl) rfl (by rw [cellsL_len mine_len]; omega) (by rw [cellsL_len mine_len]; show q * 13 + 3 + 10 ≤ _; omega) (List.length_set ..) (rown_store _ hq1)
    clear hl h2 e ok ha hq1
    exact leaf_cut (rgK Tryz.prog BplF 48 [J]) _ _ calNone false 400 [hB 18 0 _ _ e0, hB 22 0 _ _ e1, hB 40 0 _ _ e2, hC 41 5 c1, hC 42 3 c2, hG 44 7 q1, hG 44 9 q2, .stop 48] calNone_ok (by kernel_rfl) hq
theorem bp_held (ok : BpOk F S) (ha : Act15P S.G x) (g : x.d = 3) (hq : Go Tryz.prog BplF ret rp eb R0 .nrm (rgK Tryz.prog BplF 48 [J]) (bpSlT a n cap i) (bpH { S with B := S.B.setH x.k x.h, R := S.R.setH x.k x.h } ++ bpA x)) :
    Go Tryz.prog BplF ret rp eb R0 .nrm (rgK Tryz.prog BplF 16 [J]) (bpSlA a n cap i) (bpH S ++ bpA x) := by
  have c1 := setHeld_c S.B ha.rd.k x.h
  have c2 := rsetHeld_w (rdQ S.L) S.R ha.rd.k x.h ok.cur.ri.hh
  rw [setHE_rel ok.cur.rel] at c2
  have e0 : decide (x.d = 0) = false := decide_eq_false (by omega)
  have e1 : decide (x.d = 1) = false := decide_eq_false (by omega)
  have e2 : decide (x.d = 2) = false := decide_eq_false (by omega)
  have e3 : decide (x.d = 3) = true := decide_eq_true g
  have f0 : decide (S.B.setHE x.k = S.B.setHE x.k) = true := decide_eq_true rfl
  clear g ok ha
  generalize S.B.setHE x.k = er at *
  generalize S.R.setH x.k x.h = R' at *
  generalize S.B.setH x.k x.h = B' at *
  refine refM_close (n0 := (1, 1)) (H := bpZ S ++ bpA x) (by kernel_rfl) ?_
  refine leaf_cut (rgK Tryz.prog BplF 48 [J]) (bpSlT a n cap i) (((1, 1), .fam (refF (rdQ S.L) R')) :: (bpZ { S with B := B', R := R' } ++ bpA x)) calNone false 400 [hB 18 0 _ _ e0, hB 22 0 _ _ e1, hB 40 0 _ _ e2, hB 46 0 _ _ e3, hC 47 5 c1, hC 47 11 c2, hB 47 12 _ _ f0, .stop 48] calNone_ok (by kernel_rfl) ?_
  exact go_ref 1 11 12 13 (by kernel_rfl) (by kernel_rfl) (by kernel_rfl) (by kernel_rfl) hq
theorem bp_look (g0 : x.d ≠ 0) (g1 : x.d ≠ 1) (g2 : x.d ≠ 2) (g3 : x.d ≠ 3) (hq : Go Tryz.prog BplF ret rp eb R0 .nrm (rgK Tryz.prog BplF 48 [J]) (bpSlT a n cap i) (bpH S ++ bpA x)) :
    Go Tryz.prog BplF ret rp eb R0 .nrm (rgK Tryz.prog BplF 16 [J]) (bpSlA a n cap i) (bpH S ++ bpA x) := by
  have e0 : decide (x.d = 0) = false := decide_eq_false g0
  have e1 : decide (x.d = 1) = false := decide_eq_false g1
  have e2 : decide (x.d = 2) = false := decide_eq_false g2
  have e3 : decide (x.d = 3) = false := decide_eq_false g3
  clear g0 g1 g2 g3
  exact leaf_cut (rgK Tryz.prog BplF 48 [J]) _ _ calNone false 400 [hB 18 0 _ _ e0, hB 22 0 _ _ e1, hB 40 0 _ _ e2, hB 46 0 _ _ e3, .stop 48] calNone_ok (by kernel_rfl) hq
end
end Go.Proofs.YtmhbpifhpolghaaGreat
end
