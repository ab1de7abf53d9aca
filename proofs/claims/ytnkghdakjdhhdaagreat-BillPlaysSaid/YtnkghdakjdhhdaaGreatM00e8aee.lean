/- Tick19, Tb1, Tb2, Tb3, EbP4, EaP, EbW1, EbW2, EbW3, HoP4, PostPlain, BoxLoad, PostAct, Lw16f, Lw16n, Ex8, Ex9, EbW4, BkC1, BkC2, BkC3, BkC4, Sm0, Bs3. -/
import Derived.Test.YtnkghdakjdhhdaaGreatM3fa2fb6
import Derived.Test.YtnkghdakjdhhdaaGreatM911b15a
import Derived.Test.YtnkghdakjdhhdaaGreatM79bafec
import Derived.Test.YtnkghdakjdhhdaaGreatM289763c
import Derived.Test.YtnkghdakjdhhdaaGreatM88b8626
import Derived.Test.YtnkghdakjdhhdaaGreatM3981284
import Derived.Test.YtnkghdakjdhhdaaGreatM64f4c37
import Derived.Shelf.SlicesQ.Load
import Derived.Test.YtnkghdakjdhhdaaGreatRows
import Derived.Test.YtnkghdakjdhhdaaGreatMc817215
import Derived.Shelf.SlMaps.Clone
import Derived.Test.YtnkghdakjdhhdaaGreatM421640f
set_option maxRecDepth 100000
set_option linter.unusedVariables false
set_option linter.unusedSimpArgs false
set_option linter.unusedSectionVars false
section
namespace Go.Proofs.YtnkghdakjdhhdaaGreat
open Go.RowKit Go.Lib Go.Tk Go.Sort Go.Shelf
def stB (s : Int) : Bool := decide (1 ≤ s) && decide (s ≤ 7)
end Go.Proofs.YtnkghdakjdhhdaaGreat
end
section
namespace Go.Proofs.YtnkghdakjdhhdaaGreat
open Go.RowKit Go.Lib Go.Tk
structure TDocV where
  c : Int
  r : Int
  s : SaleV
  vals : List Int
  fc : Int
  fr : Int
  tc : Int
  tr : Int
  cred : Int
  paid : Int
  back : Int
  kept : Int
  left : Int
structure TDocA where
  S : SaleA
  va : Option Addr
  vc : Nat
def tdocArr (d : TDocV) (D : TDocA) : Array Value :=
  #[.int .u8 d.c, .int .u64 d.r, .string d.s.name, .slice D.S.la d.s.legs.length D.S.lc, .int .i64 d.s.fare, .slice D.S.ta d.s.taxes.length D.S.tc, .int .i64 d.s.pen, .slice D.va d.vals.length D.vc, .int .u8 d.fc, .int .u64 d.fr, .int .u8 d.tc, .int .u64 d.tr, .int .i64 d.cred, .int .i64 d.paid, .int .i64 d.back, .int .i64 d.kept, .int .i64 d.left]
structure TDocAt (w : World) (d : TDocV) (D : TDocA) : Prop where
  sale : SaleAt w d.s D.S
  vals : Row w D.va (d.vals.map (.int .i64))
theorem TDocAt.kept {w w' : World} {d : TDocV} {D : TDocA} (h : TDocAt w d D) (hb : Below w.heap.size w w') : TDocAt w' d D := ⟨h.sale.kept hb, h.vals.kept hb⟩
def lessZ (z : List (Int × Int)) : List Int := (z.filter (fun p => decide (p.1 ≤ 4))).map (·.2)
def lessL (vals st : List Int) : List Int := lessZ (st.zip vals)
def subStep (s : Int × Int) (a : Int) : Int × Int := if s.2 = 0 then subI s.1 a else s
def subAll (s : Int × Int) (l : List Int) : Int × Int := l.foldl subStep s
def badSt (st : List Int) : Bool := st.any (fun s => !stB s)
def lessAll (d : TDocV) (st : List Int) : List Int := [d.back, d.kept, d.left] ++ lessL d.vals st
def balOk (d : TDocV) (st : List Int) (pl : Nat) : Prop := st.length = d.vals.length ∧ pl = d.vals.length ∧ badSt st = false
instance (d : TDocV) (st : List Int) (pl : Nat) : Decidable (balOk d st pl) := inferInstanceAs (Decidable (_ ∧ _ ∧ _))
def balI (d : TDocV) (st : List Int) (pl : Nat) : Int × Int := if balOk d st pl then subAll (sumFrom 0 [d.paid, d.cred]) (lessAll d st) else (0, 1)
theorem mem_less {vals st : List Int} {x : Int} (h : x ∈ lessL vals st) : x ∈ vals := by
  unfold lessL lessZ at h
  obtain ⟨p, hp, rfl⟩ := List.mem_map.1 h
  have h1 := (List.mem_filter.1 hp).1
  obtain ⟨a, b⟩ := p
  exact (List.of_mem_zip h1).2
end Go.Proofs.YtnkghdakjdhhdaaGreat
end
section
namespace Go.Proofs.YtnkghdakjdhhdaaGreat
open Go.RowKit Go.Lib Go.Tk Go.Sort Go.Shelf
def tdocBox (w : World) (b : Nat) (d : TDocV) (D : TDocA) : Prop := Box w b (tdocArr d D)
theorem tdocBox.kept {w w' : World} {b : Nat} {d : TDocV} {D : TDocA} (h : tdocBox w b d D) (hb : Below w.heap.size w w') : tdocBox w' b d D := Box.kept h hb
theorem tdocBox.vals {w : World} {b : Nat} {d : TDocV} {D : TDocA} (h : tdocBox w b d D) : w.cell? ⟨b, 7, none⟩ = some (.slice D.va d.vals.length D.vc) := Box.cell h 7 rfl
theorem tdocBox.cred {w : World} {b : Nat} {d : TDocV} {D : TDocA} (h : tdocBox w b d D) : w.cell? ⟨b, 12, none⟩ = some (.int .i64 d.cred) := Box.cell h 12 rfl
theorem tdocBox.paid {w : World} {b : Nat} {d : TDocV} {D : TDocA} (h : tdocBox w b d D) : w.cell? ⟨b, 13, none⟩ = some (.int .i64 d.paid) := Box.cell h 13 rfl
theorem tdocBox.back {w : World} {b : Nat} {d : TDocV} {D : TDocA} (h : tdocBox w b d D) : w.cell? ⟨b, 14, none⟩ = some (.int .i64 d.back) := Box.cell h 14 rfl
theorem tdocBox.left {w : World} {b : Nat} {d : TDocV} {D : TDocA} (h : tdocBox w b d D) : w.cell? ⟨b, 16, none⟩ = some (.int .i64 d.left) := Box.cell h 16 rfl
end Go.Proofs.YtnkghdakjdhhdaaGreat
end
section
namespace Go.Proofs.YtnkghdakjdhhdaaGreat
open Go.RowKit Go.Lib Go.Tk Go.Shelf Go.Vc Go.Sx
def toT (d : DocV) : TDocV := ⟨d.t.c, d.t.r, d.s, d.vals, d.frm.c, d.frm.r, d.dst.c, d.dst.r, d.credit, d.paid, d.back, d.kept, d.left⟩
end Go.Proofs.YtnkghdakjdhhdaaGreat
end
section
namespace Go.Proofs.YtnkghdakjdhhdaaGreat
open Go.RowKit Go.Lib Go.Tk Go.Shelf Go.Vc Go.Sx
theorem subAll_dn : ∀ (l : List Int) (x : Int), (∀ y ∈ l, 0 ≤ y) → l.sum ≤ x → x ≤ 1125899906842624 → subAll (x, 0) l = (x - l.sum, 0)
  | [], x, _, _, _ => by simp [subAll]
  | a :: l, x, h, hs, hx => by
    have ha := h a (by simp)
    have hl : ∀ y ∈ l, 0 ≤ y := fun y hy => h y (by simp [hy])
    have hn := sum_nonneg l hl
    rw [List.sum_cons] at hs
    have e : subStep (x, 0) a = (x - a, 0) := by
      unfold subStep subI
      have m1 : mayI x = true := by simp [mayI]; omega
      have m2 : mayI a = true := by simp [mayI]; omega
      have m3 : mayI (x - a) = true := by simp [mayI]; omega
      simp [m1, m2, m3]
    show subAll (subStep (x, 0) a) l = _
    rw [e, subAll_dn l (x - a) hl (by omega) (by omega), List.sum_cons]
    congr 1
    omega
theorem less_op : ∀ L : List OwnV, (lessL (L.map (·.k.v)) (L.map (·.k.s))).sum = opL L
  | [] => rfl
  | o :: L => by
    have ih := less_op L
    unfold lessL lessZ opL at ih ⊢
    rw [List.map_cons, List.map_cons, List.zip_cons_cons]
    by_cases h : o.k.s ≤ 4
    · rw [List.filter_cons_of_pos (by simp [h]), List.filter_cons_of_pos (by simp [h]), List.map_cons, List.map_cons, List.sum_cons, List.sum_cons, ih]
    · rw [List.filter_cons_of_neg (by simp [h]), List.filter_cons_of_neg (by simp [h]), ih]
theorem bal_val {d : DocV} {L : List OwnV} (h : DocI d L) (hb : d.paid + d.credit ≤ 1125899906842624) (h0 : 0 ≤ mD d L + d.credit) : balI (toT d) (L.map (·.k.s)) L.length = (mD d L + d.credit, 0) := by
  have hp := h.paid
  have hk := h.kept
  have hbk := h.back
  have hl := h.left
  have hlc := h.leftc
  have hv : (toT d).vals = L.map (·.k.v) := h.vals.symm
  have hok : balOk (toT d) (L.map (·.k.s)) L.length := by
    refine ⟨by rw [hv]; simp, by rw [hv]; simp, ?_⟩
    unfold badSt
    rw [List.any_eq_false]
    intro x hx
    obtain ⟨o, ho, rfl⟩ := List.mem_map.1 hx
    have := h.st o ho
    have e : stB o.k.s = true := by simp [stB]; omega
    rw [e]; decide
  unfold balI
  rw [if_pos hok]
  have e : sumFrom 0 [(toT d).paid, (toT d).cred] = (d.paid + d.credit, 0) := by
    rw [sumFrom_nn _ 0 (by decide) (by omega) (fun x hx => ?_)]
    · have : mayI (0 + [(toT d).paid, (toT d).cred].sum) = true := by simp [mayI, toT]; omega
      rw [if_pos this]
      simp [toT]
    · simp only [List.mem_cons, List.not_mem_nil, or_false] at hx
      rcases hx with rfl | rfl
      · exact hp
      · show 0 ≤ d.credit
        omega
  have hm : mD d L = d.paid - d.back - d.kept - d.left - opL L := rfl
  have hs : (lessAll (toT d) (L.map (·.k.s))).sum = d.back + d.kept + d.left + opL L := by
    unfold lessAll
    rw [hv, List.sum_append, less_op]
    simp [toT]; omega
  rw [e, subAll_dn, hs]
  · congr 1; omega
  · intro y hy
    unfold lessAll at hy
    rw [List.mem_append] at hy
    rcases hy with hy | hy
    · simp only [List.mem_cons, List.not_mem_nil, or_false] at hy
      rcases hy with rfl | rfl | rfl
      · exact hbk
      · exact hk
      · exact hl
    · have := mem_less hy
      rw [hv, h.vals] at this
      exact h.nn y this
  · rw [hs]; omega
  · exact hb
structure DocG (B : BookV) (d : DocV) (w : Int) : Prop where
  bal : balI (toT d) (statusL B d.t) (statusL B d.t).length = (w, 0)
  paid : 0 ≤ d.paid ∧ d.paid ≤ 35184372088832
  back : 0 ≤ d.back ∧ d.back ≤ 35184372088832
  kept : 0 ≤ d.kept ∧ d.kept ≤ 35184372088832
  left : 0 ≤ d.left ∧ d.left ≤ 35184372088832
  op : 0 ≤ opL (coupL B d.t) ∧ opL (coupL B d.t) ≤ 35184372088832
  leftc : d.left ≤ d.credit
  vals : (coupL B d.t).map (·.k.v) = d.vals
theorem docG_of {B : BookV} (h : EB B) {d : DocV} (hd : d ∈ B.docs) {w : Int} (e : mD d (coupL B d.t) + d.credit = w) (hw : 0 ≤ w) : DocG B d w := by
  have hi := h.ei.doc d hd
  have hr := doc_r h.ex.bk hd
  have hm := h.ex.bk.many
  have hb := hi.bnd
  have h32 : 1099511627776 * d.t.r ≤ 35184372088832 := by omega
  have := hi.paid
  have := hi.back
  have := hi.kept
  have := hi.left
  have hlc := hi.leftc
  have hop := opL_nn hi
  have hmd : mD d (coupL B d.t) = d.paid - d.back - d.kept - d.left - opL (coupL B d.t) := rfl
  refine ⟨?_, by omega, by omega, by omega, by omega, by omega, hlc, hi.vals⟩
  have := bal_val hi (by omega) (by omega)
  rw [e] at this
  unfold statusL
  rw [List.length_map]
  exact this
theorem EB.non {B : BookV} (h : EB B) {d : DocV} (hd : d ∈ B.docs) (h0 : d.dst = tid0) : DocG B d 0 := docG_of h hd (h.ei.non d hd h0) (Int.le_refl _)
theorem lkD_mem_eq {ds : List DocV} (hn : (ds.map (·.t)).Nodup) {n : DocV} (h : n ∈ ds) : lkD ds n.t = some n := by
  obtain ⟨x, hx⟩ := lkD_some (List.mem_map_of_mem (f := fun d : DocV => d.t) h)
  obtain ⟨h1, h2⟩ := lkD_mem hx
  rw [hx, nodup_eq hn h1 h h2]
theorem EB.lnk {B : BookV} (h : EB B) {d : DocV} (hd : d ∈ B.docs) (h0 : d.dst ≠ tid0) : ∃ n, lkD B.docs d.dst = some n ∧ n.frm = d.t ∧ 0 ≤ n.credit ∧ DocG B d n.credit := by
  obtain ⟨n, hn, e1, e2, e3⟩ := h.ei.lnk d hd h0
  have hc : 0 ≤ n.credit := by have := (h.ei.doc n hn).left; have := (h.ei.doc n hn).leftc; omega
  exact ⟨n, by rw [← e1]; exact lkD_mem_eq h.nodup hn, e2, hc, docG_of h hd e3 hc⟩
def paidB (d : DocV) : Int := d.paid - d.back
def restB (B : BookV) (d : DocV) : Int := d.kept + d.left + opL (coupL B d.t)
theorem sum_sub {α : Type} (f g h : α → Int) : ∀ l : List α, (∀ x, h x = f x - g x) → (l.map h).sum = (l.map f).sum - (l.map g).sum
  | [], _ => rfl
  | x :: l, e => by simp only [List.map_cons, List.sum_cons, sum_sub f g h l e, e x]; omega
theorem EB.total {B : BookV} (h : EB B) : (B.docs.map paidB).sum = (B.docs.map (restB B)).sum := by
  have := sum_sub paidB (restB B) (fun d => mD d (coupL B d.t)) B.docs fun d => by unfold mD paidB restB; omega
  rw [h.ei.tot] at this
  omega
end Go.Proofs.YtnkghdakjdhhdaaGreat
end
section
namespace Go.Proofs.YtnkghdakjdhhdaaGreat
open Go.RowKit Go.Lib Go.Tk Go.Shelf Go.Vc Go.Sx
structure EL (B : BookV) : Prop where
  ex : ExOk B
  ks : KeysIn B
  lf : ∀ d ∈ B.docs, 0 ≤ d.left ∧ d.left ≤ 1125899906842624
  ne : ∀ d ∈ B.docs, coupL B d.t ≠ []
theorem newL_ne {B : BookV} {s : SaleV} (ok : SaleOk s) (hm : B.issE s = 0) : newL s ≠ [] := by
  obtain ⟨-, -, hsh, -⟩ := check_shape (issE_check hm)
  obtain ⟨hS, ha, l1, l4, f0, f1⟩ := shape_share ok hsh
  intro e
  have := newL_len s
  rw [e, shareV_len hS, ws_len] at this
  simp at this
  omega
theorem EL.issued {B : BookV} (h : EL B) {s : SaleV} (ok : SaleOk s) (hm : B.issE s = 0) : EL (B.issued s) := by
  have m := made_i ok hm
  refine ⟨h.ex.issued ok hm, h.ks.issued s, fun d hd => ?_, fun d hd => ?_⟩
  · rcases List.mem_append.1 (show d ∈ B.docs ++ [docMade B.nextT s] from hd) with hd | hd
    · exact h.lf d hd
    · rw [List.mem_singleton.1 hd]; exact ⟨Int.le_refl _, by show (0 : Int) ≤ _; decide⟩
  · rcases List.mem_append.1 (show d ∈ B.docs ++ [docMade B.nextT s] from hd) with hd | hd
    · rw [coupL_issued_ne (nextT_fresh h.ex.bk d hd)]; exact h.ne d hd
    · rw [List.mem_singleton.1 hd]
      show coupL (B.issued s) B.nextT ≠ []
      rw [coupL_issued (h.ks.next h.ex.bk) m.vl]; exact newL_ne ok hm
end Go.Proofs.YtnkghdakjdhhdaaGreat
end
section
namespace Go.Proofs.YtnkghdakjdhhdaaGreat
open Go.RowKit Go.Lib Go.Tk Go.Shelf Go.Vc Go.Sx
end Go.Proofs.YtnkghdakjdhhdaaGreat
end
section
namespace Go.Proofs.YtnkghdakjdhhdaaGreat
open Go.RowKit Go.Lib Go.Tk Go.Shelf Go.Vc Go.Sx
end Go.Proofs.YtnkghdakjdhhdaaGreat
end
section
namespace Go.Proofs.YtnkghdakjdhhdaaGreat
open Go.RowKit Go.Lib Go.Tk Go.Shelf Go.Vc Go.Sx
theorem tid_nth {l : List Tid} {k : Nat} {t : Tid} (h : l[k]? = some t) : ∀ (ε : Env) (q : Nat) (v : SV), (tidS t)[q]? = some v → (cellsL tcL l)[k * 2 + q]? = some (v.den ε) :=
  cells_nth (enc := tcL) (encS := tidS) (fun _ _ => rfl) (fun _ => rfl) h
theorem tids_get {ds : List DocV} {k : Nat} {d : DocV} (h : ds[k]? = some d) : (ds.map (·.t))[k]? = some d.t := by rw [List.getElem?_map, h]; rfl
end Go.Proofs.YtnkghdakjdhhdaaGreat
end
section
namespace Go.Proofs.YtnkghdakjdhhdaaGreat
open Go.RowKit Go.Lib Go.Tk Go.Shelf Go.Vc Go.Sx
end Go.Proofs.YtnkghdakjdhhdaaGreat
end
section
namespace Go.Proofs.YtnkghdakjdhhdaaGreat
open Go.RowKit Go.Lib Go.Tk
structure Msg where
  k : Int
  tc : Int
  tr : Int
  ix : Int
  lc : Int
  lf : Int
  lx : Int
  v : Int
  st : Int
  nn : Int
  amt : Int
  cd : Int
deriving DecidableEq, Inhabited
structure BoxV where
  wait : List Msg
  given : Int
  last : Int
structure PostV where
  self : Int
  n : Int
  box : Nat → BoxV
def PostV.other (P : PostV) (c : Int) : Bool := decide (0 ≤ c) && decide (c < P.n) && !decide (c = P.self)
def PostV.put (P : PostV) (c : Nat) (X : BoxV) : PostV := { P with box := fun i => if i = c then X else P.box i }
def PostV.cs (P : PostV) : List Nat := (List.range P.n.toNat).filter fun c => P.other c
end Go.Proofs.YtnkghdakjdhhdaaGreat
end
section
namespace Go.Proofs.YtnkghdakjdhhdaaGreat
open Go.RowKit Go.Lib Go.Tk Go.Shelf
end Go.Proofs.YtnkghdakjdhhdaaGreat
end
section
namespace Go.Proofs.YtnkghdakjdhhdaaGreat
open Go.RowKit Go.Lib Go.Tk Go.WideShapes
theorem wfu8' {a : Int} (h : (Lit.int .u8 a).wf = true) : 0 ≤ a ∧ a ≤ 255 := by
  simpa [Lit.wf, IntKind.min, IntKind.max, IntKind.signed, IntKind.bits] using h
theorem wfu64' {a : Int} (h : (Lit.int .u64 a).wf = true) : 0 ≤ a ∧ a ≤ 18446744073709551615 := by
  simpa [Lit.wf, IntKind.min, IntKind.max, IntKind.signed, IntKind.bits] using h
variable {H : Type} {enc : TypeId × Value → H} {w : World} {base : Nat} {spare : Nat → Bool} {held : Bool}
end Go.Proofs.YtnkghdakjdhhdaaGreat
end
section
namespace Go.Proofs.YtnkghdakjdhhdaaGreat
open Go.RowKit Go.Lib Go.Tk Go.Shelf Go.Vc Go.Sx Go.WideShapes
section
variable {H : Type} {enc : TypeId × Value → H} {w : World} {base : Nat} {spare : Nat → Bool} {held : Bool}
end
end Go.Proofs.YtnkghdakjdhhdaaGreat
end
section
namespace Go.Proofs.YtnkghdakjdhhdaaGreat
open Go.RowKit Go.Lib Go.Tk Go.Shelf Go.Vc Go.Sx
end Go.Proofs.YtnkghdakjdhhdaaGreat
end
section
namespace Go.Proofs.YtnkghdakjdhhdaaGreat
open Go.RowKit Go.Lib Go.Tk Go.Shelf Go.Vc Go.Sx
end Go.Proofs.YtnkghdakjdhhdaaGreat
end
section
namespace Go.Proofs.YtnkghdakjdhhdaaGreat
open Go.RowKit Go.Lib Go.Tk Go.Shelf Go.Vc Go.Sx
def t11 : Tid := ⟨1, 1⟩
def t12 : Tid := ⟨1, 2⟩
end Go.Proofs.YtnkghdakjdhhdaaGreat
end
section
namespace Go.Proofs.YtnkghdakjdhhdaaGreat
open Go.RowKit Go.Lib Go.Tk Go.Shelf Go.Vc Go.Sx
theorem tid_docs {B : BookV} (h : BookOk B) {d : DocV} (hd : d ∈ B.docs) : TidOk d.t := by
  obtain ⟨j, hj, hjd⟩ := List.getElem_of_mem hd
  have e := h.docs j d (by rw [List.getElem?_eq_getElem hj, hjd])
  have hs := h.self
  have hn := h.n
  have hm := h.many
  rw [e]
  exact ⟨⟨by show 0 ≤ B.self; omega, by show B.self ≤ 255; omega⟩, by show 0 ≤ (j : Int) + 1; omega, by show (j : Int) + 1 ≤ _; omega⟩
theorem encTaxL_len (l : List Tax) : (cellsL encTax l).length = l.length * 2 := cellsL_len (enc := encTax) (size := 2) (fun _ => rfl) l
theorem slOk_row {w : World} {a : Option Addr} {xs : List Value} {n c : Nat} (hr : Row w a xs) (hx : a = none → xs.length = 0 → n = 0) (hn : a = none → c = 0) : SlOk a n c := ⟨fun e => ⟨hx e (by
  subst e
  cases hl : xs.length with
  | zero => rfl
  | succ k =>
    obtain ⟨b, off, h, -⟩ := hr 0 (by omega)
    cases h), hn e⟩⟩
theorem maxLen_le {n : Nat} (h : n ≤ maxLen) : n ≤ 9223372036854775807 := by unfold maxLen at h; omega
end Go.Proofs.YtnkghdakjdhhdaaGreat
end
section
namespace Go.Proofs.YtnkghdakjdhhdaaGreat
open Go.RowKit Go.Lib Go.Tk Go.Shelf Go.Vc Go.Sx Go.Maps
end Go.Proofs.YtnkghdakjdhhdaaGreat
end
section
namespace Go.Proofs.YtnkghdakjdhhdaaGreat
open Go.RowKit Go.Lib Go.Tk Go.Shelf Go.Vc Go.Sx Go.Maps
end Go.Proofs.YtnkghdakjdhhdaaGreat
end
section
namespace Go.Proofs.YtnkghdakjdhhdaaGreat
open Go.RowKit Go.Lib Go.Tk Go.Shelf Go.Vc Go.Sx Go.Maps
theorem putt_new {κ α : Type} [DecidableEq κ] : ∀ (l : List (κ × α)) (k : κ) (a : α), (∀ p ∈ l, p.1 ≠ k) → putt l k a = l ++ [(k, a)]
  | [], _, _, _ => rfl
  | p :: l, k, a, h => by
    show (if _ then _ else _) = _
    rw [if_neg (h p List.mem_cons_self), putt_new l k a fun q hq => h q (List.mem_cons_of_mem _ hq)]
    rfl
end Go.Proofs.YtnkghdakjdhhdaaGreat
end
section
namespace Go.Proofs.YtnkghdakjdhhdaaGreat
open Go.RowKit Go.Lib Go.Tk Go.Shelf Go.Vc Go.Sx Go.Maps
def oldB (B : BookV) (a : BkA) : SC := .box none [.val (.int .u8 B.self), .val (.int .i64 B.n), .val (.map (some a.d)), .val (.map (some a.o)), .val (.map (some a.h))]
end Go.Proofs.YtnkghdakjdhhdaaGreat
end
section
namespace Go.Proofs.YtnkghdakjdhhdaaGreat
open Go.RowKit Go.Lib Go.Tk Go.Shelf Go.Vc Go.Sx Go.Maps
def legEq (a b : Leg) : Bool := decide (a.c = b.c) && (decide (a.f = b.f) && (decide (a.x = b.x) && true))
def cpnEq (a b : Cpn) : Bool := legEq a.l b.l && (decide (a.v = b.v) && (decide (a.s = b.s) && (decide (a.n = b.n) && true)))
def ownEq (a b : OwnV) : Bool := cpnEq a.k b.k && ((a.away == b.away) && (decide (a.dst = b.dst) && ((a.paid == b.paid) && ((a.asked == b.asked) && true))))
def heldEq (a b : HeldV) : Bool := cpnEq a.k b.k && ((a.here == b.here) && ((a.paid == b.paid) && ((a.wanted == b.wanted) && ((a.billed == b.billed) && true))))
theorem cpnEq_iff (a b : Cpn) : cpnEq a b = true ↔ a = b := by
  obtain ⟨⟨a1, a2, a3⟩, a4, a5, a6⟩ := a
  obtain ⟨⟨b1, b2, b3⟩, b4, b5, b6⟩ := b
  simp [cpnEq, legEq, and_assoc]
theorem ownEq_iff (a b : OwnV) : ownEq a b = true ↔ a = b := by
  obtain ⟨a1, a2, a3, a4, a5⟩ := a
  obtain ⟨b1, b2, b3, b4, b5⟩ := b
  unfold ownEq
  rw [Bool.and_eq_true, cpnEq_iff]
  simp
theorem heldEq_iff (a b : HeldV) : heldEq a b = true ↔ a = b := by
  obtain ⟨a1, a2, a3, a4, a5⟩ := a
  obtain ⟨b1, b2, b3, b4, b5⟩ := b
  unfold heldEq
  rw [Bool.and_eq_true, cpnEq_iff]
  simp
theorem map_facts {kt : TypeId} {κ α : Type} {K : KeyKind Tryz.prog kt κ} {enc : α → Value} {L : List (κ × α)} {m : Nat} {R : List Chunk} {w : World} (h : Mem (mapC K m (ents enc L) :: R) w) : (L.map (·.1)).Nodup ∧ ∀ p ∈ L, K.ok p.1 := by
  obtain ⟨es, clock, hb, hp, hn, hk, -⟩ := h.of 0 rfl (φ := MapAt K w m (ents enc L)) (fun S hS => hS.2)
  refine ⟨by unfold ents at hn; rwa [List.map_map] at hn, fun p hp' => ?_⟩
  exact hk (p.1, enc p.2) (List.mem_map_of_mem (f := fun p : κ × α => (p.1, enc p.2)) hp')
end Go.Proofs.YtnkghdakjdhhdaaGreat
end
section
namespace Go.Proofs.YtnkghdakjdhhdaaGreat
open Go.RowKit Go.Lib Go.Tk Go.Shelf Go.Vc Go.Sx
structure Act15Rd (F : CF) (x : Act15) : Prop where
  ok : SaleOk x.s
  hl : ∀ b v, Rd (F b v) x.A.la (cellsL encLeg x.s.legs)
  ht : ∀ b v, Rd (F b v) x.A.ta (cellsL encTax x.s.taxes)
  h1 : SlOk x.A.la x.s.legs.length x.A.lc
  h2 : SlOk x.A.ta x.s.taxes.length x.A.tc
  k : KidOk x.k
  o : OwnOk x.o
theorem book_keys {B : BookV} {b : Nat} {v : Value} {R : List Chunk} {w : World} (h : Mem (bookF B b v :: R) w) : ∀ p ∈ B.helds, KidOk p.1 := by
  obtain ⟨a, h1⟩ := Mem.ex h
  have h4 : Mem (mapC kidK a.h (ents heldW B.helds) :: _) w := h1.all.front 3 rfl
  exact (map_facts h4).2
theorem act15Rd_of {w : World} {x : Act15} (h : Act15In w x) (h1 : x.s.legs.length ≤ 1000) (h2 : x.s.taxes.length ≤ 1000) : Act15Rd (fun _ _ => oldC w) x where
  ok := h.ok.small h1 h2
  hl := fun _ _ => rd_old h.at_.legs
  ht := fun _ _ => rd_old h.at_.taxes
  h1 := slOk_row h.at_.legs (fun _ e => by rw [cellsL_len encLeg_len] at e; omega) h.at_.lnil
  h2 := slOk_row h.at_.taxes (fun _ e => by rw [encTaxL_len] at e; omega) h.at_.tnil
  k := h.k
  o := h.ov
end Go.Proofs.YtnkghdakjdhhdaaGreat
end
