/- Ce1, Bk4, Ho1, Ho2, Ho3, Bk5, Ho4, SxQ, Lw16, Ex0, Ex1, Ex2, Ex3, Ce2. -/
import Derived.Test.YtdnaegleifhmgaaGreatMc9ee414
import Derived.Test.YtdnaegleifhmgaaGreatSxE
import Derived.Test.YtdnaegleifhmgaaGreatMb6a2934
set_option maxRecDepth 100000
set_option linter.unusedVariables false
set_option linter.unusedSimpArgs false
set_option linter.unusedSectionVars false
section
namespace Go.Proofs.YtdnaegleifhmgaaGreat
open Go.RowKit Go.Lib Go.Tk Go.Shelf Go.Vc Go.Sx
structure LedV where
  n : Int
  docs : List DocV
  slips : SlipsV
structure LedA where
  d : Nat
  s : Nat
def ledH (F : CF) (L : LedV) : Heap := [((0, 0), .box none [.val (.int .i64 L.n), .map 0 1, .map 0 2]), ((0, 1), .fam F), ((0, 2), slipsF L.slips)]
def ledF (L : LedV) : CF := fun b _ => exC fun (a : LedA) => allC [boxE none b #[.int .i64 L.n, .map (some a.d), .map (some a.s)], docsX L.docs a.d undef, mapT kidK slipW L.slips a.s undef]
def ledS (L : LedV) (s : Nat) : Heap := [((s, 0), .box none [.val (.int .i64 L.n), .map s 1, .map s 2]), ((s, 1), .fam (docsX L.docs)), ((s, 2), slipsF L.slips)]
def ledC (L : LedV) : Heap := [((0, 0), .fam (ledF L))]
theorem led_packs (L : LedV) : Packs (ledF L) (ledS L) 2 where
  opens := fun b v R w h => by
    obtain ⟨a, h1⟩ := h.ex
    have h2 := h1.all
    refine ⟨fun k => match k with
      | 0 => (b, v)
      | 1 => (a.d, undef)
      | _ => (a.s, undef), rfl, fun ε he => ?_⟩
    have e0 := he 0 (by decide)
    have e1 := he 1 (by decide)
    have e2 := he 2 (by decide)
    simp only [ledS, hden, List.map_cons, List.map_nil, SC.den, SV.dens, SV.den, slipsF, e0, e1, e2]
    exact h2
  shuts := fun s ε R w h => by
    have h1 : Mem ([boxE none (ε s 0).1 #[.int .i64 L.n, .map (some (ε s 1).1), .map (some (ε s 2).1)], docsX L.docs (ε s 1).1 undef, mapT kidK slipW L.slips (ε s 2).1 undef] ++ R) w := h
    exact Mem.in_ex ⟨(ε s 1).1, (ε s 2).1⟩ h1.in_all
theorem lshut {f : Nat} {args : List SV} {rd post : Heap} {ret : SV} {B B' : LedV} (h : CallOK Tryz.prog f args rd (ledH (docsX B.docs) B) ret (ledH (docsX B'.docs) B' ++ post)) (h1 : SV.oks (noIn 2) args = true) (h2 : hok (noIn 2) rd = true) (h3 : ret.ok (noIn 2) = true) (h4 : hok (noIn 2) post = true) :
    CallOK Tryz.prog f args rd (ledC B) ret (ledC B' ++ post) := by
  have e : CallOK Tryz.prog f args [] (ledS B 0 ++ rd) ret (ledS B' 0 ++ (rd ++ post)) := by
    have h5 := (h.of_rd.pre_mono (pre' := ledS B 0 ++ rd) (fun ε R w hM => ?_)).post_mono (post' := ledS B' 0 ++ (rd ++ post)) (fun ε R w hM => ?_)
    · exact h5
    · rw [hden_append] at hM ⊢
      exact mem_perm (List.Perm.append_right R List.perm_append_comm) hM
    · rw [hden_append, hden_append] at hM
      rw [hden_append, hden_append]
      refine mem_perm (List.Perm.append_right R ?_) hM
      rw [← List.append_assoc, ← List.append_assoc]
      exact List.Perm.append_right _ List.perm_append_comm
  have h6 := CallOK.pack (led_packs B) (led_packs B') e h1 h2 h3 (by unfold hok at h2 h4 ⊢; rw [List.all_append, h2, h4]; rfl)
  refine CallOK.to_rd ((h6.pre_mono (pre' := rd ++ ledC B) (fun ε R w hM => ?_)).post_mono (post' := rd ++ (ledC B' ++ post)) (fun ε R w hM => ?_))
  · rw [hden_append] at hM
    have := mem_perm (List.Perm.append_right R List.perm_append_comm) hM
    exact this
  · have hM : Mem ((hden ε (ledC B') ++ hden ε (rd ++ post)) ++ R) w := hM
    rw [hden_append] at hM
    rw [hden_append, hden_append]
    refine mem_perm (List.Perm.append_right R ?_) hM
    rw [← List.append_assoc, ← List.append_assoc]
    exact List.Perm.append_right _ List.perm_append_comm
theorem ledX {f : Nat} {args : List SV} {rd post : Heap} {ret : SV} {B B' : LedV} (h : ∀ L : List (DocV × DocA), L.map (·.1) = B.docs → CallOK Tryz.prog f args rd (ledH (docsF L) B) ret (ledH (docsX B'.docs) B' ++ post)) : CallOK Tryz.prog f args rd (ledH (docsX B.docs) B) ret (ledH (docsX B'.docs) B' ++ post) := by
  intro ε R w hM
  have hM : Mem ((hden ε rd ++ hden ε (ledH (docsX B.docs) B)) ++ R) w := by rw [← hden_append]; exact hM
  have hM1 : Mem (docsX B.docs (ε 0 1).1 (ε 0 1).2 :: (((SC.box none [.val (.int .i64 B.n), .map 0 1, .map 0 2]).den ε 0 0 :: (slipsF B.slips).den ε 0 2 :: []) ++ hden ε rd ++ R)) w := by
    refine mem_perm ?_ hM
    show ((hden ε rd ++ [_, docsX B.docs (ε 0 1).1 (ε 0 1).2, _]) ++ R).Perm _
    refine List.Perm.trans (List.Perm.append_right R List.perm_append_comm) ?_
    simp only [List.cons_append, List.nil_append, List.append_assoc]
    exact List.Perm.swap _ _ _
  obtain ⟨x, hM2⟩ := hM1.ex
  refine h x.1 x.2 ε R w ?_
  have : Mem ((hden ε rd ++ hden ε (ledH (docsF x.1) B)) ++ R) w := by
    refine mem_perm ?_ hM2
    show (docsF x.1 (ε 0 1).1 (ε 0 1).2 :: _).Perm ((hden ε rd ++ [_, docsF x.1 (ε 0 1).1 (ε 0 1).2, _]) ++ R)
    refine List.Perm.trans ?_ (List.Perm.append_right R List.perm_append_comm)
    simp only [List.cons_append, List.nil_append, List.append_assoc]
    exact List.Perm.swap _ _ _
  rw [← hden_append] at this
  exact this
theorem led_forget {L : List (DocV × DocA)} {B : LedV} (hL : L.map (·.1) = B.docs) {post : Heap} {ε : Env} {R : List Chunk} {w : World} (hM : Mem (hden ε (ledH (docsF L) B ++ post) ++ R) w) : Mem (hden ε (ledH (docsX B.docs) B ++ post) ++ R) w := by
  have hM : Mem (_ :: docsF L (ε 0 1).1 (ε 0 1).2 :: _) w := hM
  have h1 := hM.front 1 rfl
  have h2 : Mem (docsX B.docs (ε 0 1).1 (ε 0 1).2 :: _) w := Mem.in_ex ⟨L, hL⟩ h1
  exact h2.front 1 rfl
def LNewF : Nat := 10
def ledE (n : Int) : Int := bif decide (n < 2) || decide (8 < n) then 1 else 0
def ledNew (n : Int) : LedV := ⟨n, [], []⟩
end Go.Proofs.YtdnaegleifhmgaaGreat
end
section
namespace Go.Proofs.YtdnaegleifhmgaaGreat
open Go.RowKit Go.Lib Go.Tk Go.Shelf Go.Vc Go.Sx
def docR (d : DocV) : Heap := [((1, 0), legR d.s.legs.length d.s.legs), ((1, 1), taxR d.s.taxes.length d.s.taxes), ((1, 2), i64R d.vals.length d.vals)]
structure DocSmall (d : DocV) : Prop where
  nl : d.s.legs.length ≤ 1073741824
  nt : d.s.taxes.length ≤ 1073741824
  nv : d.vals.length ≤ 1073741824
theorem docs_ok {L M : List (DocV × DocA)} {p : DocV × DocA} (hp : p ∈ L ∨ p ∈ M) {b : Nat} {v : Value} {R : List Chunk} {w : World} (h : Mem (docsG L M b v :: R) w) : SlOk p.2.la p.1.s.legs.length p.2.lc ∧ SlOk p.2.ta p.1.s.taxes.length p.2.tc ∧ SlOk p.2.va p.1.vals.length p.2.vc := by
  refine h.of 0 rfl (φ := _) fun S hS => ?_
  obtain ⟨Sd, h1, h2, h3⟩ := hS.2
  have hd : DocIn Sd w p := hp.elim (h2 p) (h3 p)
  exact ⟨hd.okl, hd.okt, hd.okv⟩
structure BookOk (B : BookV) : Prop where
  self : 0 ≤ B.self ∧ B.self < B.n
  n : 2 ≤ B.n ∧ B.n ≤ 8
  docs : ∀ (i : Nat) (d : DocV), B.docs[i]? = some d → d.t = ⟨B.self, (i : Int) + 1⟩
  many : B.docs.length ≤ 32
def BookV.nextT (B : BookV) : Tid := ⟨B.self, (B.docs.length : Int) + 1⟩
def BookV.issE (B : BookV) (s : SaleV) : Int := bif decide ((32 : Int) ≤ (B.docs.length : Int)) then 3 else makeE B.self ((B.docs.length : Int) + 1) s B.n
def ownNew (l : Leg) (v : Int) : OwnV := ⟨⟨l, v, 1, 0⟩, false, 0, false, false⟩
def issO (t : Tid) (s : SaleV) (vs : List Int) (L : OwnsV) : Nat → OwnsV
  | 0 => L
  | i + 1 => putt (issO t s vs L i) ⟨t, (i : Int)⟩ (ownNew (s.legs.getD i leg0) (vs.getD i 0))
def BookV.issued (B : BookV) (s : SaleV) : BookV := { B with docs := B.docs ++ [docMade B.nextT s], owns := issO B.nextT s (shareV s.fare (wsOf s)) B.owns (shareV s.fare (wsOf s)).length }
theorem docKV_map (L : List (DocV × DocA)) : (docKV L).map (·.1) = (L.map (·.1)).map (·.t) := by simp [docKV]
theorem BookOk.fresh {B : BookV} (hb : BookOk B) {L : List (DocV × DocA)} (hL : L.map (·.1) = B.docs) (p : DocV × DocA) (hp : p.1.t = B.nextT) : (putt (docKV L) p.1.t p).Perm (docKV (L ++ [p])) := by
  have hn : p.1.t ∉ (docKV L).map (·.1) := fun h => by
    rw [docKV_map, hL] at h
    obtain ⟨d, hd, he⟩ := List.mem_map.1 h
    obtain ⟨i, hi⟩ := List.mem_iff_getElem?.1 hd
    have h1 := hb.docs i d hi
    have h2 := (List.getElem?_eq_some_iff.1 hi).1
    rw [he, hp] at h1
    have h3 := congrArg Tid.r h1
    simp only [BookV.nextT] at h3
    omega
  rw [putt_new _ _ hn]
  simp [docKV]
end Go.Proofs.YtdnaegleifhmgaaGreat
end
section
namespace Go.Proofs.YtdnaegleifhmgaaGreat
open Go.RowKit Go.Lib Go.Tk Go.Shelf Go.Vc Go.Sx
structure HR where
  out : List OutV
  e : Int
  b : BookV
end Go.Proofs.YtdnaegleifhmgaaGreat
end
section
namespace Go.Proofs.YtdnaegleifhmgaaGreat
open Go.RowKit Go.Lib Go.Tk Go.Shelf Go.Vc Go.Sx
def noS : SV := .tup []
end Go.Proofs.YtdnaegleifhmgaaGreat
end
section
namespace Go.Proofs.YtdnaegleifhmgaaGreat
open Go.RowKit Go.Lib Go.Tk Go.Shelf Go.Vc Go.Sx
theorem keyOf_u8 {x : Int} (h : 0 ≤ x ∧ x ≤ 255) : ∃ l, keyOf Tryz.prog 5 (.int .u8 x) = some l := ⟨_, Go.Maps.keyOf_int_mk Tryz.underlying5 (wf_u8 h)⟩
end Go.Proofs.YtdnaegleifhmgaaGreat
end
section
namespace Go.Proofs.YtdnaegleifhmgaaGreat
open Go.RowKit Go.Lib Go.Tk Go.Shelf Go.Vc Go.Sx
theorem setO_docs (B : BookV) (k : Kid) (o : OwnV) : (B.setO k o).docs = B.docs := by unfold BookV.setO; cases (lkt B.owns k).isSome <;> rfl
theorem obj_map {kt : TypeId} {κ : Type} {K : KeyKind Tryz.prog kt κ} {α : Type} {enc : α → Value} {b : Nat} {v : Value} {S : Nat → Prop} {w : World} (h : (objM b []).at_ S w) : (mapT K enc [] b v).at_ S w := by
  obtain ⟨hb, es, clock, h1, h2, -, h4, h5⟩ := h
  exact ⟨hb, es, clock, h1, h2, by simp [ents], by simp [ents], h4, h5⟩
theorem obj_docs {b : Nat} {v : Value} {S : Nat → Prop} {w : World} (h : (objM b []).at_ S w) : (docsX [] b v).at_ S w :=
  ⟨⟨[], rfl⟩, ⟨h.1, (obj_map (K := tidK) (enc := docW) (v := v) h).2⟩, fun _ => False, fun k hk => hk.elim, fun p hp => (by cases hp), fun p hp => (by cases hp)⟩
end Go.Proofs.YtdnaegleifhmgaaGreat
end
section
namespace Go.Proofs.YtdnaegleifhmgaaGreat
open Go.RowKit Go.Lib Go.Tk Go.Shelf Go.Vc Go.Sx
end Go.Proofs.YtdnaegleifhmgaaGreat
end
section
namespace Go.Sx
open Go.RowKit Go.Tk Go.Lib Go.Shelf Go.Vc
def QF (E : TypeId) (size : Nat) (w : World) (v : Value) (n : Nat) (xs : List Value) : Prop :=
  xs.length = n * size ∧ ((v = .slice none 0 0 ∧ n = 0) ∨ ∃ g lo cap cur, v = .slice (some ⟨g, lo * size, none⟩) n cap ∧ BoxE (some E) w g cur ∧ n ≤ cap ∧ cap ≤ maxLen ∧ (lo + cap) * size ≤ cur.size ∧ (cur.toList.drop (lo * size)).take (n * size) = xs)
theorem QF.cell {E : TypeId} {size : Nat} {w : World} {v : Value} {n : Nat} {xs : List Value} (h : QF E size w v n xs) {i : Nat} {u : Value} (hi : xs[i]? = some u) : ∃ g off cap, v = .slice (some ⟨g, off, none⟩) n cap ∧ w.cell? ⟨g, off + i, none⟩ = some u := by
  obtain ⟨hl, ⟨h1, h2⟩ | ⟨g, lo, cap, cur, hv, hb, h1, h2, h3, h4⟩⟩ := h
  · subst h2
    have := (List.getElem?_eq_some_iff.1 hi).1
    rw [hl, Nat.zero_mul] at this
    exact absurd this (Nat.not_lt_zero _)
  · refine ⟨g, _, cap, hv, hb.cell _ ?_⟩
    have hil := (List.getElem?_eq_some_iff.1 hi).1
    rw [← h4, List.getElem?_take_of_lt (by rw [← hl]; exact hil), List.getElem?_drop] at hi
    simpa using hi
theorem QF.is {E : TypeId} {size : Nat} {w : World} {v : Value} {n : Nat} {xs : List Value} (h : QF E size w v n xs) : ∃ a c, v = .slice a n c := by
  obtain ⟨hl, ⟨h1, h2⟩ | ⟨g, lo, cap, cur, hv, -⟩⟩ := h
  · exact ⟨_, _, by rw [h1, h2]⟩
  · exact ⟨_, _, hv⟩
def qcC (E : TypeId) (size : Nat) (v : Value) (n : Nat) (xs : List Value) : Chunk where
  at_ S w := (∀ g, v.ownBlock = some g → S g) ∧ QF E size w v n xs
  stable {S w w'} hk hi h := ⟨h.1, by
    obtain ⟨hl, h1 | ⟨g, lo, cap, cur, hv, ⟨E', fz, e1, e2, e3⟩, h2⟩⟩ := h.2
    · exact ⟨hl, .inl h1⟩
    · have e : S g := h.1 g (by rw [hv]; rfl)
      exact ⟨hl, .inr ⟨g, lo, cap, cur, hv, ⟨E', fz, e1, by rw [hk.block g e (hi g e)]; exact e2, e3⟩, h2⟩⟩⟩
section
variable {P : Program} {w : World}
variable {α : Type} {enc : α → List Value} {E size : Nat}
def qF (E size : Nat) (enc : α → List Value) (l : List α) : Nat → Value → Chunk := fun _ v => qcC E size v l.length (cellsL enc l)
def isNm (k : Nat) : Nat → Nat → Bool := fun s j => !(Nat.beq s 1 && Nat.beq j k)
end
end Go.Sx
end
section
namespace Go.Proofs.YtdnaegleifhmgaaGreat
open Go.RowKit Go.Lib Go.Tk Go.Shelf Go.Vc Go.Sx
def legsS : List Leg → List SV
  | [] => []
  | x :: l => legS' x ++ legsS l
def taxesS : List Tax → List SV
  | [] => []
  | x :: l => taxS' x ++ taxesS l
theorem legs_dens (ε : Env) : ∀ l : List Leg, SV.dens ε (legsS l) = cellsL encLeg l
  | [] => rfl
  | x :: l => by
    unfold legsS
    rw [dens_append, legs_dens ε l]; rfl
theorem taxes_dens (ε : Env) : ∀ l : List Tax, SV.dens ε (taxesS l) = cellsL encTax l
  | [] => rfl
  | x :: l => by
    unfold taxesS
    rw [dens_append, taxes_dens ε l]; rfl
def legD (n : Nat) (l : List Leg) : SC := .row 43 3 n (.deep (legsS l)) []
def taxD (n : Nat) (l : List Tax) : SC := .row 126 2 n (.deep (taxesS l)) []
def noTen : Nat → Nat → Bool := fun s k => !(Nat.beq s 0 && (Nat.beq k 9))
theorem row_sl {E size : Nat} {w : World} {v : Value} {n : Nat} {xs : List Value} (h : RowF E size w v n xs) : ∃ a c, v = .slice a n c ∧ SlOk a n c := by
  obtain ⟨-, ⟨h1, h2⟩ | ⟨g, cap, cur, h1, -⟩⟩ := h
  · exact ⟨none, 0, by rw [h1, h2], ⟨fun _ => ⟨h2, rfl⟩⟩⟩
  · exact ⟨_, cap, h1, ⟨fun e => by cases e⟩⟩
theorem raw2 {f : Nat} {args : SV → SV → List SV} {pre post : Heap} {ret : SV} {s : SaleV} (hargs : ∀ ε ε' x y x' y', SV.den ε x = SV.den ε' x' → SV.den ε y = SV.den ε' y' → (∀ s k, noTen s k = true → ε s k = ε' s k) → SV.dens ε (args x y) = SV.dens ε' (args x' y'))
    (h : ∀ (F : CF) (A : SaleA), (∀ b v, Rd (F b v) A.la (cellsL encLeg s.legs)) → (∀ b v, Rd (F b v) A.ta (cellsL encTax s.taxes)) → SlOk A.la s.legs.length A.lc → SlOk A.ta s.taxes.length A.tc →
      CallOK Tryz.prog f (args (.val (.slice A.la s.legs.length A.lc)) (.val (.slice A.ta s.taxes.length A.tc))) [((0, 9), .fam F)] pre ret post)
    (h1 : hok noTen pre = true) (h2 : ret.ok noTen = true) (h3 : hok noTen post = true) :
    CallOK Tryz.prog f (args (.raw 0 10) (.raw 0 11)) [((0, 10), legD s.legs.length s.legs), ((0, 11), taxD s.taxes.length s.taxes)] pre ret post := by
  intro ε R w hM
  have hM : Mem (rowC 43 3 (asSl (ε 0 10).2) s.legs.length (SV.dens ε (legsS s.legs)) :: rowC 126 2 (asSl (ε 0 11).2) s.taxes.length (SV.dens ε (taxesS s.taxes)) :: (hden ε pre ++ R)) w := hM
  rw [legs_dens, taxes_dens] at hM
  obtain ⟨la, lc, hvl, okl⟩ := row_sl (hM.owns 0 rfl)
  obtain ⟨ta, tc, hvt, okt⟩ := row_sl (hM.owns 1 rfl)
  rw [hvl, hvt] at hM
  have hc := h (fun _ _ => allC [rowC 43 3 (.slice la s.legs.length lc) s.legs.length (cellsL encLeg s.legs), rowC 126 2 (.slice ta s.taxes.length tc) s.taxes.length (cellsL encTax s.taxes)]) ⟨la, lc, ta, tc⟩
    (fun b v S w hS => by obtain ⟨F, f1, f2, f3⟩ := hS; exact rd_row _ _ (f2 0 _ rfl)) (fun b v S w hS => by obtain ⟨F, f1, f2, f3⟩ := hS; exact rd_row _ _ (f2 1 _ rfl)) okl okt
  have key : ∀ s k, noTen s k = true → ε s k = eset ε 0 (fun k => bif Nat.beq k 9 then (0, undef) else ε 0 k) s k := fun s k hs => by
    by_cases h0 : s = 0
    · subst h0
      rw [eset_at]
      cases hb : Nat.beq k 9 with
      | false => rfl
      | true => unfold noTen at hs; rw [hb] at hs; cases hs
    · rw [eset_ne h0]
  have hA : SV.dens ε (args (.raw 0 10) (.raw 0 11)) = SV.dens (eset ε 0 fun k => bif Nat.beq k 9 then (0, undef) else ε 0 k) (args (.val (.slice la s.legs.length lc)) (.val (.slice ta s.taxes.length tc))) :=
    hargs _ _ _ _ _ _ (by simp only [SV.den]; exact hvl) (by simp only [SV.den]; exact hvt) key
  rw [hA]
  have hM2 := Mem.in_all (l := [rowC 43 3 (.slice la s.legs.length lc) s.legs.length (cellsL encLeg s.legs), rowC 126 2 (.slice ta s.taxes.length tc) s.taxes.length (cellsL encTax s.taxes)]) hM
  rw [hden_congr key h1] at hM2
  refine (hc _ R w hM2).mono ?_
  rintro e w' ⟨x, rfl, hm⟩
  have key' : ∀ s k, noTen s k = true → eset ε 1 x s k = eset (eset ε 0 fun k => bif Nat.beq k 9 then (0, undef) else ε 0 k) 1 x s k := fun s k hs => by
    by_cases h0 : s = 1
    · subst h0; rw [eset_at, eset_at]
    · rw [eset_ne h0, eset_ne h0]; exact key s k hs
  refine ⟨x, by rw [SV.den_congr key' ret h2], ?_⟩
  have hm : Mem (allC [rowC 43 3 (.slice la s.legs.length lc) s.legs.length (cellsL encLeg s.legs), rowC 126 2 (.slice ta s.taxes.length tc) s.taxes.length (cellsL encTax s.taxes)] :: (hden (eset (eset ε 0 fun k => bif Nat.beq k 9 then (0, undef) else ε 0 k) 1 x) post ++ R)) w' := hm
  rw [← hden_congr key' h3] at hm
  have hm := hm.all
  show Mem ((legD s.legs.length s.legs).den (eset ε 1 x) 0 10 :: (taxD s.taxes.length s.taxes).den (eset ε 1 x) 0 11 :: (hden (eset ε 1 x) post ++ R)) w'
  simp only [legD, taxD, SC.den, SL.den, legs_dens, taxes_dens]
  rw [eset_ne (show (0 : Nat) ≠ 1 by decide), hvl, hvt]
  exact hm
end Go.Proofs.YtdnaegleifhmgaaGreat
end
section
namespace Go.Proofs.YtdnaegleifhmgaaGreat
open Go.RowKit Go.Lib Go.Tk Go.Shelf Go.Vc Go.Sx
theorem callOK_pure {f : Nat} {args : List SV} {ret : SV} (h : ∀ ε w, Calls Tryz.prog f (SV.dens ε args).toArray w fun e w' => e = .returned (ret.den ε) ∧ Below w.heap.size w w') : CallOK Tryz.prog f args [] [] ret [] := by
  intro ε R w hM
  have hM : Mem R w := hM
  refine (h ε w).mono ?_
  rintro e w' ⟨rfl, hb⟩
  exact ⟨ε 1, by rw [eset_self], by rw [eset_self]; exact hM.kept hb⟩
theorem callOK_row1 {f E size n : Nat} {xs : List Value} {ret : SV} {post : Heap} (hr : ret.ok no0 = true) (hp : hok no0 post = true)
    (h : ∀ (F : CF) (a : Option Addr) (c : Nat), (∀ b v, Rd (F b v) a xs) → SlOk a n c → CallOK Tryz.prog f [.val (.slice a n c)] [((0, 0), .fam F)] [] ret post) :
    CallOK Tryz.prog f [.raw 0 0] [((0, 0), .row E size n (.shal xs) [])] [] ret post := by
  intro ε R w hM
  have hM : Mem (rowC E size (asSl (ε 0 0).2) n xs :: R) w := hM
  obtain ⟨a, c, hv, hok⟩ := row_sl (hM.owns 0 rfl)
  have hA : (SV.dens ε [.raw 0 0]).toArray = (SV.dens ε [.val (.slice a n c)]).toArray := by simp only [SV.dens, SV.den]; rw [hv]
  rw [hA]
  rw [hv] at hM
  refine (h (fun _ _ => rowC E size (.slice a n c) n xs) a c (fun b v S w hS => rd_row _ _ hS) hok ε R w hM).mono ?_
  rintro e w' ⟨x, rfl, hm⟩
  refine ⟨x, rfl, ?_⟩
  have hm : Mem (rowC E size (.slice a n c) n xs :: (hden (eset ε 1 x) post ++ R)) w' := hm
  show Mem (rowC E size (asSl (eset ε 1 x 0 0).2) n xs :: (hden (eset ε 1 x) post ++ R)) w'
  rw [eset_ne (show (0 : Nat) ≠ 1 by decide), hv]
  exact hm
end Go.Proofs.YtdnaegleifhmgaaGreat
end
section
namespace Go.Proofs.YtdnaegleifhmgaaGreat
open Go.RowKit Go.Lib Go.Tk Go.Shelf Go.Vc Go.Sx
def coupL (B : BookV) (t : Tid) : List OwnV :=
  match lkt B.owns ⟨t, 0⟩ with
  | none => []
  | some a => match lkt B.owns ⟨t, 1⟩ with
    | none => [a]
    | some b => match lkt B.owns ⟨t, 2⟩ with
      | none => [a, b]
      | some c => match lkt B.owns ⟨t, 3⟩ with
        | none => [a, b, c]
        | some d => [a, b, c, d]
theorem coupL_cases (B : BookV) (t : Tid) : (coupL B t = [] ∧ lkt B.owns ⟨t, 0⟩ = none) ∨ (∃ a, coupL B t = [a] ∧ lkt B.owns ⟨t, 0⟩ = some a ∧ lkt B.owns ⟨t, 1⟩ = none) ∨
    (∃ a b, coupL B t = [a, b] ∧ lkt B.owns ⟨t, 0⟩ = some a ∧ lkt B.owns ⟨t, 1⟩ = some b ∧ lkt B.owns ⟨t, 2⟩ = none) ∨
    (∃ a b c, coupL B t = [a, b, c] ∧ lkt B.owns ⟨t, 0⟩ = some a ∧ lkt B.owns ⟨t, 1⟩ = some b ∧ lkt B.owns ⟨t, 2⟩ = some c ∧ lkt B.owns ⟨t, 3⟩ = none) ∨
    (∃ a b c d, coupL B t = [a, b, c, d] ∧ lkt B.owns ⟨t, 0⟩ = some a ∧ lkt B.owns ⟨t, 1⟩ = some b ∧ lkt B.owns ⟨t, 2⟩ = some c ∧ lkt B.owns ⟨t, 3⟩ = some d) := by
  unfold coupL
  cases h0 : lkt B.owns ⟨t, 0⟩ with
  | none => exact .inl ⟨rfl, rfl⟩
  | some a =>
    cases h1 : lkt B.owns ⟨t, 1⟩ with
    | none => exact .inr (.inl ⟨a, rfl, rfl, rfl⟩)
    | some b =>
      cases h2 : lkt B.owns ⟨t, 2⟩ with
      | none => exact .inr (.inr (.inl ⟨a, b, rfl, rfl, rfl, rfl⟩))
      | some c =>
        cases h3 : lkt B.owns ⟨t, 3⟩ with
        | none => exact .inr (.inr (.inr (.inl ⟨a, b, c, rfl, rfl, rfl, rfl, rfl⟩)))
        | some d => exact .inr (.inr (.inr (.inr ⟨a, b, c, d, rfl, rfl, rfl, rfl, rfl⟩)))
def statusL (B : BookV) (t : Tid) : List Int := (coupL B t).map (·.k.s)
def lkD (ds : List DocV) (t : Tid) : Option DocV := ds.find? fun d => decide (d.t = t)
theorem lkD_kv (t : Tid) : ∀ L : List (DocV × DocA), (lkt (docKV L) t).map (·.1) = lkD (L.map (·.1)) t
  | [] => rfl
  | p :: L => by
    show ((if p.1.t = t then some p else lkt (docKV L) t) : Option (DocV × DocA)).map (·.1) = _
    unfold lkD
    rw [List.map_cons, List.find?_cons]
    by_cases e : p.1.t = t
    · rw [if_pos e, decide_eq_true e]; rfl
    · rw [if_neg e, decide_eq_false e]; exact lkD_kv t L
theorem mem_kv {L : List (DocV × DocA)} {t : Tid} {p : DocV × DocA} (h : lkt (docKV L) t = some p) : p ∈ L ∧ p.1.t = t := by
  obtain ⟨q, hq, he⟩ := List.mem_map.1 (lkt_mem h)
  cases he
  exact ⟨hq, rfl⟩
end Go.Proofs.YtdnaegleifhmgaaGreat
end
section
namespace Go.Proofs.YtdnaegleifhmgaaGreat
open Go.RowKit Go.Lib Go.Tk Go.Shelf Go.Vc Go.Sx
def putD (ds : List DocV) (d : DocV) : List DocV := ds.map fun x => if x.t = d.t then d else x
def BookV.setD (B : BookV) (d : DocV) : BookV := { B with docs := putD B.docs d }
def putDA (L : List (DocV × DocA)) (p : DocV × DocA) : List (DocV × DocA) := L.map fun x => if x.1.t = p.1.t then p else x
theorem putDA_fst (p : DocV × DocA) : ∀ L : List (DocV × DocA), (putDA L p).map (·.1) = putD (L.map (·.1)) p.1
  | [] => rfl
  | x :: L => by
    have ih := putDA_fst p L
    unfold putDA putD at ih ⊢
    simp only [List.map_cons, ih]
    by_cases e : x.1.t = p.1.t
    · rw [if_pos e, if_pos e]
    · rw [if_neg e, if_neg e]
theorem putDA_kv (p : DocV × DocA) : ∀ {L : List (DocV × DocA)}, ((docKV L).map (·.1)).Nodup → (lkt (docKV L) p.1.t).isSome = true → putt (docKV L) p.1.t p = docKV (putDA L p)
  | [], _, h => by cases h
  | x :: L, hn, h => by
    have hn : (x.1.t :: (docKV L).map (·.1)).Nodup := hn
    rw [List.nodup_cons] at hn
    show (if _ then _ else _) = _
    by_cases e : x.1.t = p.1.t
    · rw [if_pos e]
      have hL : putDA L p = L := by
        unfold putDA
        refine (List.map_congr_left fun y hy => ?_).trans (List.map_id L)
        have : y.1.t ≠ p.1.t := fun q => hn.1 (by rw [e, ← q]; exact List.mem_map_of_mem (f := (·.1)) (List.mem_map_of_mem (f := fun p : DocV × DocA => (p.1.t, p)) hy))
        rw [if_neg this]; rfl
      show _ = docKV ((if _ then _ else _) :: putDA L p)
      rw [if_pos e, hL]
      rfl
    · rw [if_neg e]
      have h' : (lkt (docKV L) p.1.t).isSome = true := by
        have h : ((if _ then _ else _) : Option _).isSome = true := h
        rwa [if_neg e] at h
      show _ :: putt (docKV L) p.1.t p = docKV ((if _ then _ else _) :: putDA L p)
      rw [if_neg e, putDA_kv p hn.2 h']; rfl
end Go.Proofs.YtdnaegleifhmgaaGreat
end
section
namespace Go.Proofs.YtdnaegleifhmgaaGreat
open Go.RowKit Go.Lib Go.Tk Go.Shelf Go.Vc Go.Sx
def MAddF : Nat := 76
def MSumF : Nat := 43
def GiveWF : Nat := 126
def PriceF : Nat := 90
theorem madd_w (a b : Int) : CallOK Tryz.prog MAddF [.val (.int .i64 a), .val (.int .i64 b)] [] [] (.tup [.val (.int .i64 (addI a b).1), eN (addI a b).2]) [] := callOK_pure fun ε w => add_any a b w
theorem tgive_w {v p : Int} (hv : v ≤ 9223372036854775807) (hp : p ≤ 9223372036854775807) : CallOK Tryz.prog GiveWF [.val (.int .i64 v), .val (.int .i64 p)] [] [] (.tup [.val (.int .i64 (giveV v p)), .val (.int .i64 (giveK v p))]) [] :=
  callOK_pure fun ε w => (give_any v p w hv hp).mono fun e w' ⟨h1, h2⟩ => ⟨h1, by subst h2; exact Below.refl _ _⟩
theorem msum_open (F : CF) {a : Option Addr} {n c : Nat} {xs : List Int} (hR : ∀ b v, Rd (F b v) a (xs.map (.int .i64))) (hn : xs.length = n) (hm : n ≤ 9223372036854775807) : CallOK Tryz.prog MSumF [.val (.slice a n c)] [((0, 0), .fam F)] [] (.tup [.val (.int .i64 (sumFrom 0 xs).1), eN (sumFrom 0 xs).2]) [] := by
  subst hn
  intro ε R w hM
  have hM : Mem (F (ε 0 0).1 (ε 0 0).2 :: R) w := hM
  refine (sum_any a c xs w ((hR _ _).row hM 0 rfl) hm).mono ?_
  rintro e w' ⟨rfl, hb⟩
  exact ⟨ε 1, rfl, by rw [eset_self]; exact hM.kept hb⟩
theorem price_F (F : CF) {s : SaleV} {A : SaleA} (ok : SaleOk s) (hl : ∀ b v, Rd (F b v) A.la (cellsL encLeg s.legs)) (ht : ∀ b v, Rd (F b v) A.ta (cellsL encTax s.taxes)) (h1 : A.la = none → A.lc = 0) (h2 : A.ta = none → A.tc = 0) :
    CallOK Tryz.prog PriceF [.agg (salS s (.val (.slice A.la s.legs.length A.lc)) (.val (.slice A.ta s.taxes.length A.tc)))] [((0, 9), .fam F)] [] (.tup [.val (.int .i64 (sumFrom 0 (priceL s)).1), eN (sumFrom 0 (priceL s)).2]) [] := by
  intro ε R w hM
  have hM : Mem (F (ε 0 9).1 (ε 0 9).2 :: R) w := hM
  have hs : SaleAt w s A := ⟨(hl _ _).row hM 0 rfl, (ht _ _).row hM 0 rfl, h1, h2⟩
  refine (price_any s A w hs ok).mono ?_
  rintro e w' ⟨rfl, hb⟩
  exact ⟨ε 1, rfl, by rw [eset_self]; exact hM.kept hb⟩
def repS (e : Int) (t : Tid) (amt : Int) (st : SV) : List SV := [eN e, .val (.int .u8 t.c), .val (.int .u64 t.r), .val (.int .i64 amt), st]
def first2 (a b : Int) : Int := bif decide (a = 0) then b else a
def freeO (o : OwnV) : Bool := !o.away && decide (o.k.s = 1)
def asO (o : OwnV) (s : Int) : OwnV := { o with k := { o.k with s := s } }
def turn1 (B : BookV) (k : Kid) (o : OwnV) (s : Int) : BookV := bif freeO o then B.setO k (asO o s) else B
theorem lkt_turn1 {B : BookV} {k k' : Kid} {o : OwnV} {s : Int} (h : k ≠ k') : lkt (turn1 B k o s).owns k' = lkt B.owns k' := by
  unfold turn1 BookV.setO
  cases freeO o <;> cases (lkt B.owns k).isSome <;> first | rfl | (show lkt (putt B.owns k _) k' = _; rw [lkt_put, if_neg h])
def turnL (s : Int) (t : Tid) : BookV → Int → List OwnV → BookV
  | B, _, [] => B
  | B, i, o :: l => turnL s t (turn1 B ⟨t, i⟩ o s) (i + 1) l
def turnB (B : BookV) (t : Tid) (s : Int) : BookV := turnL s t B 0 (coupL B t)
end Go.Proofs.YtdnaegleifhmgaaGreat
end
section
namespace Go.Proofs.YtdnaegleifhmgaaGreat
open Go.RowKit Go.Lib Go.Tk Go.Shelf Go.Vc Go.Sx
def sAt (L : SlipsV) (k : Kid) : SlipV := (lkt L k).getD slip0
def dAt (L : List (DocV × DocA)) (t : Tid) : DocV × DocA := (lkt (docKV L) t).getD (doc0, docA0)
theorem look_slips0 (L : SlipsV) {k : Kid} (hk : KidOk k) : OpG Tryz.prog (isLk ST false) lkXY [.map 0 0, .agg (kidS k)] [((0, 0), slipsF L)] [] (.agg (slipS (sAt L k))) [] :=
  look_open (K := kidK) Tryz.underlying82 zero_slip (fun b v S w h => h.2) hk (fun _ => rfl) (fun ε => by
    rw [lk_ents]
    unfold sAt
    cases lkt L k <;> rfl) (by rfl)
theorem look_docs0 (L M : List (DocV × DocA)) {t : Tid} (ht : TidOk t) : OpG Tryz.prog (isLk DT false) lkXY [.map 0 0, .agg (tidS t)] [((0, 0), .fam (docsG L M))] [] (.agg (docSA (dAt L t).1 (dAt L t).2)) [] :=
  look_open (K := tidK) Tryz.underlying81 zero_doc docsG_at ht (fun _ => rfl) (fun ε => by
    rw [lk_ents]
    unfold dAt
    cases lkt (docKV L) t <;> rfl) (by rfl)
def SlipV.free (s : SlipV) : Bool := !s.p.way && (decide (s.p.car = s.p.key.t.c) && decide (s.p.st = 1))
def SlipV.at_ (s : SlipV) (c : Int) : Bool := !s.p.way && decide (s.p.car = c)
def SlipV.under (s : SlipV) (c n : Int) : Bool := s.p.way && (decide (s.p.car = c) && decide (s.p.nonce = n))
def SfreeF : Nat := 49
def SatF : Nat := 51
def SunderF : Nat := 50
def CfreeF : Nat := 52
theorem cfree_w (x : Int) : CallOK Tryz.prog CfreeF [.val (.int .u8 x)] [] [] (.val (.bool (decide (x = 1)))) [] := callOK_run 400 [] (by kernel_rfl) (by kernel_rfl)
theorem sfree_w (s : SlipV) : CallOK Tryz.prog SfreeF [.agg (slipS s)] [] [] (.val (.bool s.free)) [] := by
  have c1 := cfree_w s.p.st
  unfold SlipV.free
  rcases Bool.eq_false_or_eq_true s.p.way with e1 | e1 <;> rcases Bool.eq_false_or_eq_true (decide (s.p.car = s.p.key.t.c)) with e2 | e2 <;> rcases Bool.eq_false_or_eq_true (decide (s.p.st = 1)) with e3 | e3 <;> simp only [e1, e2, e3] <;> exact callOK_run 400 [hB 1 2 _ _ e1, hB 1 13 _ _ e2, hC 1 19 c1, hB 1 19 _ _ e3] (by kernel_rfl) (by kernel_rfl)
theorem sat_w (s : SlipV) (c : Int) : CallOK Tryz.prog SatF [.agg (slipS s), .val (.int .u8 c)] [] [] (.val (.bool (s.at_ c))) [] := by
  unfold SlipV.at_
  rcases Bool.eq_false_or_eq_true s.p.way with e1 | e1 <;> rcases Bool.eq_false_or_eq_true (decide (s.p.car = c)) with e2 | e2 <;> simp only [e1, e2] <;> exact callOK_run 400 [hB 1 2 _ _ e1, hB 1 9 _ _ e2] (by kernel_rfl) (by kernel_rfl)
theorem sunder_w (s : SlipV) (c n : Int) : CallOK Tryz.prog SunderF [.agg (slipS s), .val (.int .u8 c), .val (.int .u32 n)] [] [] (.val (.bool (s.under c n))) [] := by
  unfold SlipV.under
  rcases Bool.eq_false_or_eq_true s.p.way with e1 | e1 <;> rcases Bool.eq_false_or_eq_true (decide (s.p.car = c)) with e2 | e2 <;> rcases Bool.eq_false_or_eq_true (decide (s.p.nonce = n)) with e3 | e3 <;> simp only [e1, e2, e3] <;> exact callOK_run 400 [hB 1 2 _ _ e1, hB 1 8 _ _ e2, hB 1 15 _ _ e3] (by kernel_rfl) (by kernel_rfl)
def toldSt (s : SlipV) (c : Int) : Int := bif !s.at_ c && !s.p.paid then 1 else s.p.st
def Told1F : Nat := 123
def stVn (n : Nat) (l : List Value) : SC := .row 44 1 n (.shal l) []
theorem told1_w (s : SlipV) (t : Tid) (amt : Int) (n : Nat) (hn : n + 1 ≤ 1073741824) (l : List Value) :
    CallOK Tryz.prog Told1F [.agg (slipS s), .ptr 0 1 0, .ptr 0 2 0] [((0, 1), .box none (tidS t))] [((0, 2), .box none (repS 0 t amt (.raw 0 5))), ((0, 5), stVn n l)] noS [((0, 2), .box none (repS 0 t amt (.raw 1 0))), ((1, 0), stVn (n + 1) (l ++ [.int .u8 (toldSt s t.c)]))] := by
  have c1 := sat_w s t.c
  unfold toldSt
  rcases Bool.eq_false_or_eq_true (s.at_ t.c) with e1 | e1 <;> rcases Bool.eq_false_or_eq_true s.p.paid with e2 | e2 <;> simp only [e1, e2] at c1 ⊢ <;> exact callOK_run 400 [hC 1 3 c1, hB 1 8 _ _ e2, .opt 3 6 (.le _ hn)] (by kernel_rfl) (by kernel_rfl)
def cturn (S : SlipsV) (s : SlipV) (x : Int) : SlipsV := bif s.free then putt S s.p.key { s with p := { s.p with st := x } } else S
def Cturn1F : Nat := 124
theorem cturn1_w (F : CF) (L : LedV) (s : SlipV) (hk : KidOk s.p.key) (x : Int) :
    CallOK Tryz.prog Cturn1F [.agg (slipS s), .ptr 0 3 0, .ptr 0 4 0] [((0, 3), .box none [.val (.int .u8 x)]), ((0, 4), .box none [.ptr 0 0 0])] (ledH F L) noS (ledH F { L with slips := cturn L.slips s x }) := by
  have c1 := sfree_w s
  have c2 := upd_slips L.slips hk { s with p := { s.p with st := x } } (List.Perm.refl _)
  unfold cturn
  rcases Bool.eq_false_or_eq_true s.free with e1 | e1 <;> simp only [e1] at c1 ⊢ <;> exact callOK_run 400 [hC 1 1 c1, hG 3 8 c2] (by kernel_rfl) (by kernel_rfl)
def Cvoid1F : Nat := 94
def cvoid (s : SlipV) : Bool := s.free && decide (s.p.nonce = 0)
theorem cvoid1_w (s : SlipV) (b : Bool) : CallOK Tryz.prog Cvoid1F [.agg (slipS s), .ptr 0 1 0] [] [((0, 1), .box none [.val (.bool b)])] noS [((0, 1), .box none [.val (.bool (b && cvoid s))])] := by
  have c1 := sfree_w s
  unfold cvoid
  rcases Bool.eq_false_or_eq_true b with e0 | e0 <;> rcases Bool.eq_false_or_eq_true s.free with e1 | e1 <;> rcases Bool.eq_false_or_eq_true (decide (s.p.nonce = 0)) with e2 | e2 <;> simp only [e0, e1, e2] at c1 ⊢ <;> exact callOK_run 400 [hC 1 3 c1, hB 1 9 _ _ e2] (by kernel_rfl) (by kernel_rfl)
end Go.Proofs.YtdnaegleifhmgaaGreat
end
