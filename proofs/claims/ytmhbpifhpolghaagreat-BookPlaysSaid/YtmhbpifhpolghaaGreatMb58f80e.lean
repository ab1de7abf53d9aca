/- Ky6, EaP, EbW1, EbW2, EbW3, Lw16b, HoP1, Lw16c, Lw16d, Lw16e, HoP2, HoP3, HoP4, PostPlain, BoxLoad, PostAct, Lw16f, Lw16n, Ex8, Vals, Ex9, EbW4, Bs3. -/
import Derived.Test.YtmhbpifhpolghaaGreatMfe2533a
import Derived.Test.YtmhbpifhpolghaaGreatMf17b370
import Derived.Shelf.SlicesQ.Load
import Derived.Test.YtmhbpifhpolghaaGreatRows
set_option maxRecDepth 100000
set_option linter.unusedVariables false
set_option linter.unusedSimpArgs false
set_option linter.unusedSectionVars false
section
namespace Go.Proofs.YtmhbpifhpolghaaGreat
open Go.RowKit Go.Lib Go.Tk Go.Shelf Go.Vc Go.Sx Go.Maps
def tidR (l : List Tid) : SC := .row 39 2 l.length (.shal (cellsL tcL l)) []
def kidR (l : List Kid) : SC := .row 44 3 l.length (.shal (cellsL kcL l)) []
def serials (n : Nat) : List Int := (List.range n).map fun i : Nat => (i : Int) + 1
theorem serials_sorted (n : Nat) : sortBy cmpI (serials n) = serials n := by
  refine sortBy_self swoI totI ?_
  unfold serials
  rw [List.pairwise_map]
  refine List.Pairwise.imp ?_ (List.pairwise_lt_range (n := n))
  intro a b h
  rw [ltI]
  simp
  omega
theorem docs_tids {B : BookV} (hb : BookOk B) : B.docs.map (·.t) = (serials B.docs.length).map (Tid.mk B.self) := by
  unfold serials
  rw [List.map_map]
  refine List.ext_getElem? fun i => ?_
  rw [List.getElem?_map, List.getElem?_map]
  by_cases h : i < B.docs.length
  · rw [List.getElem?_eq_getElem h, List.getElem?_range h]
    have := hb.docs i _ (List.getElem?_eq_getElem h)
    simp only [Option.map_some, Function.comp, this]
  · rw [List.getElem?_eq_none (by omega), List.getElem?_eq_none (by rw [List.length_range]; omega)]; rfl
theorem tickets_c {B : BookV} (hb : BookOk B) : CallOK Tryz.prog TicketsF [.ptr 0 0 0] [] (bkC B) (.raw 1 0) (bkC B ++ [((1, 0), tidR (B.docs.map (·.t)))]) := by
  refine shut (bkX fun L hL => ?_) rfl rfl rfl rfl
  have hlen : L.length = B.docs.length := by rw [← hL, List.length_map]
  have h := tickets_w (docsF L) B (L := ents docW (docKV L)) (c := B.self) (rs := serials B.docs.length) docsG_at (by
    rw [← docs_tids hb, ← hL]
    unfold ents docKV
    simp only [List.map_map]; rfl) (by have := hb.many; simp only [ents, docKV, List.length_map]; omega)
  rw [serials_sorted, ← docs_tids hb] at h
  have hl : (serials B.docs.length).length = (B.docs.map (·.t)).length := by unfold serials; simp
  rw [hl] at h
  exact h.of_rd.post_mono fun ε R w hM => by
    have hM : Mem (_ :: docsF L (ε 0 1).1 (ε 0 1).2 :: _) w := hM
    have h1 := hM.front 1 rfl
    have h2 : Mem (docsX B.docs (ε 0 1).1 (ε 0 1).2 :: _) w := Mem.in_ex ⟨L, hL⟩ h1
    exact h2.front 1 rfl
def keysL (B : BookV) : List Kid := sortBy cfK (B.helds.map (·.1))
theorem keysL_len (B : BookV) : (keysL B).length = B.helds.length := by unfold keysL; rw [(sortBy_perm _ _).length_eq, List.length_map]
theorem keys_c {B : BookV} (hlen : B.helds.length ≤ 1000000000) : CallOK Tryz.prog KeysF [.ptr 0 0 0] [] (bkC B) (.raw 1 0) (bkC B ++ [((1, 0), kidR (keysL B))]) := by
  refine shut ?_ rfl rfl rfl rfl
  have h := keys_w (docsX B.docs) B hlen
  have hl : (B.helds.map (·.1)).length = (keysL B).length := by rw [keysL_len, List.length_map]
  rw [hl] at h
  exact h.of_rd
end Go.Proofs.YtmhbpifhpolghaaGreat
end
section
namespace Go.Proofs.YtmhbpifhpolghaaGreat
open Go.RowKit Go.Lib Go.Tk Go.Shelf Go.Vc Go.Sx
structure EL (B : BookV) : Prop where
  ex : ExOk B
  ks : KeysIn B
  lf : ∀ d ∈ B.docs, 0 ≤ d.left ∧ d.left ≤ 1125899906842624
  ne : ∀ d ∈ B.docs, coupL B d.t ≠ []
theorem newL_ne {B : BookV} {s : SaleV} (ok : SaleOk s) (hm : B.issE s = 0) : newL s ≠ [] := by
  obtain ⟨-, -, hsh, -⟩ := check_shape (issE_check hm)
  obtain ⟨hS, ha, l1, l4, f0, f1⟩ := shape_share ok hsh
  intro e
  have := newL_len s
  rw [e, shareV_len hS, ws_len] at this
  simp at this
  omega
theorem EL.issued {B : BookV} (h : EL B) {s : SaleV} (ok : SaleOk s) (hm : B.issE s = 0) : EL (B.issued s) := by
  have m := made_i ok hm
  refine ⟨h.ex.issued ok hm, h.ks.issued s, fun d hd => ?_, fun d hd => ?_⟩
  · rcases List.mem_append.1 (show d ∈ B.docs ++ [docMade B.nextT s] from hd) with hd | hd
    · exact h.lf d hd
    · rw [List.mem_singleton.1 hd]; exact ⟨Int.le_refl _, by show (0 : Int) ≤ _; decide⟩
  · rcases List.mem_append.1 (show d ∈ B.docs ++ [docMade B.nextT s] from hd) with hd | hd
    · rw [coupL_issued_ne (nextT_fresh h.ex.bk d hd)]; exact h.ne d hd
    · rw [List.mem_singleton.1 hd]
      show coupL (B.issued s) B.nextT ≠ []
      rw [coupL_issued (h.ks.next h.ex.bk) m.vl]; exact newL_ne ok hm
theorem tid_nth {l : List Tid} {k : Nat} {t : Tid} (h : l[k]? = some t) : ∀ (ε : Env) (q : Nat) (v : SV), (tidS t)[q]? = some v → (cellsL tcL l)[k * 2 + q]? = some (v.den ε) :=
  cells_nth (enc := tcL) (encS := tidS) (fun _ _ => rfl) (fun _ => rfl) h
theorem tids_get {ds : List DocV} {k : Nat} {d : DocV} (h : ds[k]? = some d) : (ds.map (·.t))[k]? = some d.t := by rw [List.getElem?_map, h]; rfl
structure HSt where
  a : BookV
  b : BookV
  down : List MsV
  up : List MsV
def tA : Tid := ⟨0, 1⟩
def keyA (i : Int) : Kid := ⟨tA, i⟩
def nM (kind : Int) (k : Kid) : List MsV → Nat
  | [] => 0
  | m :: l => (if m.kind = kind ∧ m.key = k then 1 else 0) + nM kind k l
def keysA : List Kid := [keyA 0, keyA 1, keyA 2, keyA 3]
structure OneP (o : OwnV) (x : HeldV) (k : Kid) (D U : List MsV) : Prop where
  stay : o.away = false → nM 2 k D = 0 ∧ nM 5 k U = 0 ∧ x.here = false
  gone : o.away = true → o.dst = 1 ∧ nM 2 k D + nM 5 k U + (if x.here = true then 1 else 0) = 1
  dn : ∀ m ∈ D, m.kind = 2 → m.key = k → m.k.n = o.k.n
  upn : ∀ m ∈ U, m.kind = 5 → m.key = k → m.k.n = o.k.n
  hn : x.here = true → x.k.n = o.k.n
  le : x.k.n ≤ o.k.n
  lt : 0 < nM 2 k D → x.k.n < o.k.n
  lo : 0 ≤ o.k.n
  hi : o.k.n ≤ 4294967295
theorem nM_drop1 (kind : Int) (k : Kid) (l : List MsV) {m : MsV} (hm : m.kind = kind ∧ m.key = k) : nM kind k (m :: l) = nM kind k l + 1 := by
  show (if _ then 1 else 0) + _ = _; rw [if_pos hm]; omega
section
variable {o : OwnV} {x : HeldV} {k : Kid} {D U : List MsV} {m : MsV}
theorem OneP.own {o' : OwnV} (h : OneP o x k D U) (h1 : o'.away = o.away) (h2 : o'.dst = o.dst) (h3 : o'.k = o.k) : OneP o' x k D U :=
  ⟨by rw [h1]; exact h.stay, by rw [h1, h2]; exact h.gone, by rw [h3]; exact h.dn, by rw [h3]; exact h.upn, by rw [h3]; exact h.hn, by rw [h3]; exact h.le, by rw [h3]; exact h.lt, by rw [h3]; exact h.lo, by rw [h3]; exact h.hi⟩
theorem OneP.held {x' : HeldV} (h : OneP o x k D U) (h1 : x'.here = x.here) (h2 : x'.k = x.k) : OneP o x' k D U :=
  ⟨by rw [h1]; exact h.stay, by rw [h1]; exact h.gone, h.dn, h.upn, by rw [h1, h2]; exact h.hn, by rw [h2]; exact h.le, by rw [h2]; exact h.lt, h.lo, h.hi⟩
theorem OneP.away_of (h : OneP o x k D U) (h1 : x.here = true ∨ 0 < nM 2 k D ∨ 0 < nM 5 k U) : o.away = true := by
  rcases Bool.eq_false_or_eq_true o.away with e | e
  · exact e
  · have := h.stay e
    rcases h1 with h1 | h1 | h1
    · rw [this.2.2] at h1; cases h1
    · omega
    · omega
theorem OneP.back (h : OneP o x k D (m :: U)) (h1 : m.kind = 5) (h2 : m.key = k) : o.away = true ∧ o.dst = 1 ∧ o.k.n = m.k.n ∧ OneP (backO o) x k D U := by
  have hz := nM_drop1 5 k U (m := m) ⟨h1, h2⟩
  have hn := h.upn m List.mem_cons_self h1 h2
  have hp : 0 < nM 5 k (m :: U) := by omega
  have ha := h.away_of (.inr (.inr hp))
  have hg := h.gone ha
  rw [hz] at hg
  have hf : x.here = false := by
    rcases Bool.eq_false_or_eq_true x.here with e | e
    · rw [if_pos e] at hg; omega
    · exact e
  exact ⟨ha, hg.1, hn.symm, ⟨fun _ => ⟨by omega, by omega, hf⟩, (fun e => by cases e), h.dn, fun m' hm' e1 e2 => h.upn m' (List.mem_cons_of_mem _ hm') e1 e2, h.hn, h.le, h.lt, h.lo, h.hi⟩⟩
end
structure InvP (σ : HSt) : Prop where
  one : ∀ k ∈ keysA, ∃ o, lkt σ.a.owns k = some o ∧ OneP o ((lkt σ.b.helds k).getD held0) k σ.down σ.up
  sa : σ.a.self = 0
  na : σ.a.n = 2
  sb : σ.b.self = 1
  nb : σ.b.n = 2
  ow : ∀ k, (lkt σ.a.owns k).isSome = true → k ∈ keysA
  ob : σ.b.owns = []
  ha : σ.a.helds = []
  he : ∀ k, (lkt σ.b.helds k).isSome = true → k ∈ keysA
  nd : (σ.b.helds.map (·.1)).Nodup
  dk : ∀ m ∈ σ.down, m.key ∈ keysA ∧ (m.kind = 2 ∨ m.kind = 3 ∨ m.kind = 4)
  uk : ∀ m ∈ σ.up, m.key ∈ keysA ∧ (m.kind = 1 ∨ m.kind = 3 ∨ m.kind = 5)
theorem len_sub {α : Type} [DecidableEq α] : ∀ (l r : List α), l.Nodup → (∀ a ∈ l, a ∈ r) → l.length ≤ r.length
  | [], r, _, _ => Nat.zero_le _
  | a :: l, r, hn, hs => by
    rw [List.nodup_cons] at hn
    have hm := hs a List.mem_cons_self
    have := len_sub l (r.erase a) hn.2 (fun b hb => by
      have hne : b ≠ a := fun e => hn.1 (e ▸ hb)
      exact (List.mem_erase_of_ne hne).2 (hs b (List.mem_cons_of_mem _ hb)))
    rw [List.length_erase_of_mem hm] at this
    have hp : 0 < r.length := List.length_pos_of_mem hm
    simp only [List.length_cons]; omega
theorem keys_at {k : Kid} (h : k ∈ keysA) : ∃ i : Int, k = keyA i ∧ 0 ≤ i ∧ i ≤ 3 := by
  simp only [keysA, List.mem_cons, List.not_mem_nil, or_false] at h
  rcases h with rfl | rfl | rfl | rfl
  · exact ⟨0, rfl, by decide, by decide⟩
  · exact ⟨1, rfl, by decide, by decide⟩
  · exact ⟨2, rfl, by decide, by decide⟩
  · exact ⟨3, rfl, by decide, by decide⟩
theorem InvP.setHE {σ : HSt} (h : InvP σ) {k : Kid} (hk : k ∈ keysA) : σ.b.setHE k = 0 := by
  obtain ⟨i, rfl, h0, h1⟩ := keys_at hk
  have hb : σ.b.badK (keyA i) = false := by
    unfold BookV.badK
    rw [h.sb, h.nb]
    show (decide ((0 : Int) = 1) || (decide ((2 : Int) ≤ 0) || (decide ((1 : Int) < 1) || (decide ((9999999999 : Int) < 1) || decide (4 ≤ i))))) = false
    rw [decide_eq_false (show ¬ 4 ≤ i by omega)]; rfl
  have hl := len_sub _ keysA h.nd (fun a ha => h.he a (by
    cases e : lkt σ.b.helds a with
    | none => exact absurd ha (lkt_none.1 e)
    | some _ => rfl))
  rw [List.length_map] at hl
  have hl : σ.b.helds.length ≤ 4 := hl
  unfold BookV.setHE
  rw [hb, decide_eq_false (show ¬ 64 ≤ σ.b.helds.length by omega), Bool.and_false]; rfl
theorem InvP.setH {σ : HSt} (h : InvP σ) {k : Kid} (hk : k ∈ keysA) (x : HeldV) : σ.b.setH k x = { σ.b with helds := putt σ.b.helds k x } := by
  unfold BookV.setH; rw [h.setHE hk]; rfl
section
variable {A B : BookV} {D U D' U' : List MsV} {k : Kid}
end
section
variable {A B : BookV} {D U : List MsV}
end
end Go.Proofs.YtmhbpifhpolghaaGreat
end
section
namespace Go.Proofs.YtmhbpifhpolghaaGreat
open Go.RowKit Go.Lib Go.Tk
structure Msg where
  k : Int
  tc : Int
  tr : Int
  ix : Int
  lc : Int
  lf : Int
  lx : Int
  v : Int
  st : Int
  nn : Int
  amt : Int
  cd : Int
deriving DecidableEq, Inhabited
structure BoxV where
  wait : List Msg
  given : Int
  last : Int
structure PostV where
  self : Int
  n : Int
  box : Nat → BoxV
def PostV.other (P : PostV) (c : Int) : Bool := decide (0 ≤ c) && decide (c < P.n) && !decide (c = P.self)
def PostV.put (P : PostV) (c : Nat) (X : BoxV) : PostV := { P with box := fun i => if i = c then X else P.box i }
def PostV.cs (P : PostV) : List Nat := (List.range P.n.toNat).filter fun c => P.other c
end Go.Proofs.YtmhbpifhpolghaaGreat
end
section
namespace Go.Proofs.YtmhbpifhpolghaaGreat
open Go.RowKit Go.Lib Go.Tk Go.Shelf
end Go.Proofs.YtmhbpifhpolghaaGreat
end
section
namespace Go.Proofs.YtmhbpifhpolghaaGreat
open Go.RowKit Go.Lib Go.Tk Go.WideShapes
variable {H : Type} {enc : TypeId × Value → H} {w : World} {base : Nat} {spare : Nat → Bool} {held : Bool}
end Go.Proofs.YtmhbpifhpolghaaGreat
end
section
namespace Go.Proofs.YtmhbpifhpolghaaGreat
open Go.RowKit Go.Lib Go.Tk Go.Shelf Go.Vc Go.Sx Go.WideShapes
section
variable {H : Type} {enc : TypeId × Value → H} {w : World} {base : Nat} {spare : Nat → Bool} {held : Bool}
end
end Go.Proofs.YtmhbpifhpolghaaGreat
end
section
namespace Go.Proofs.YtmhbpifhpolghaaGreat
open Go.RowKit Go.Lib Go.Tk Go.Shelf Go.Vc Go.Sx
def StatusesF : Nat := 54
end Go.Proofs.YtmhbpifhpolghaaGreat
end
section
namespace Go.Proofs.YtmhbpifhpolghaaGreat
open Go.RowKit Go.Lib Go.Tk Go.Sort Go.Shelf
end Go.Proofs.YtmhbpifhpolghaaGreat
end
section
namespace Go.Proofs.YtmhbpifhpolghaaGreat
open Go.RowKit Go.Lib Go.Tk Go.Shelf Go.Vc Go.Sx
def t11 : Tid := ⟨1, 1⟩
def t12 : Tid := ⟨1, 2⟩
theorem tid_docs {B : BookV} (h : BookOk B) {d : DocV} (hd : d ∈ B.docs) : TidOk d.t := by
  obtain ⟨j, hj, hjd⟩ := List.getElem_of_mem hd
  have e := h.docs j d (by rw [List.getElem?_eq_getElem hj, hjd])
  have hs := h.self
  have hn := h.n
  have hm := h.many
  rw [e]
  exact ⟨⟨by show 0 ≤ B.self; omega, by show B.self ≤ 255; omega⟩, by show 0 ≤ (j : Int) + 1; omega, by show (j : Int) + 1 ≤ _; omega⟩
theorem encTaxL_len (l : List Tax) : (cellsL encTax l).length = l.length * 2 := cellsL_len (enc := encTax) (size := 2) (fun _ => rfl) l
theorem slOk_row {w : World} {a : Option Addr} {xs : List Value} {n c : Nat} (hr : Row w a xs) (hx : a = none → xs.length = 0 → n = 0) (hn : a = none → c = 0) : SlOk a n c := ⟨fun e => ⟨hx e (by
  subst e
  cases hl : xs.length with
  | zero => rfl
  | succ k =>
    obtain ⟨b, off, h, -⟩ := hr 0 (by omega)
    cases h), hn e⟩⟩
theorem maxLen_le {n : Nat} (h : n ≤ maxLen) : n ≤ 9223372036854775807 := by unfold maxLen at h; omega
structure Act15Rd (F : CF) (x : Act15) : Prop where
  ok : SaleOk x.s
  hl : ∀ b v, Rd (F b v) x.A.la (cellsL encLeg x.s.legs)
  ht : ∀ b v, Rd (F b v) x.A.ta (cellsL encTax x.s.taxes)
  h1 : SlOk x.A.la x.s.legs.length x.A.lc
  h2 : SlOk x.A.ta x.s.taxes.length x.A.tc
  k : KidOk x.k
  o : OwnOk x.o
theorem act15Rd_of {w : World} {x : Act15} (h : Act15In w x) (h1 : x.s.legs.length ≤ 1000) (h2 : x.s.taxes.length ≤ 1000) : Act15Rd (fun _ _ => oldC w) x where
  ok := h.ok.small h1 h2
  hl := fun _ _ => rd_old h.at_.legs
  ht := fun _ _ => rd_old h.at_.taxes
  h1 := slOk_row h.at_.legs (fun _ e => by rw [cellsL_len encLeg_len] at e; omega) h.at_.lnil
  h2 := slOk_row h.at_.taxes (fun _ e => by rw [encTaxL_len] at e; omega) h.at_.tnil
  k := h.k
  o := h.ov
theorem lens_of {w : World} {x : Act15} (h : Act15In w x) : Lens x := ⟨maxLen_le h.ok.nl, maxLen_le h.ok.nt, maxLen_le h.ok.name, maxLen_le h.dvm, maxLen_le h.dok.nl, maxLen_le h.dok.nt, maxLen_le h.dok.name⟩
end Go.Proofs.YtmhbpifhpolghaaGreat
end
