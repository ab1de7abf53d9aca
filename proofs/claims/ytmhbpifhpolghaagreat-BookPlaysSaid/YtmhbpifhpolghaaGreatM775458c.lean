/- Bk3, Bk4. -/
import Derived.Test.YtmhbpifhpolghaaGreatM3fa2fb6
set_option maxRecDepth 100000
set_option linter.unusedVariables false
set_option linter.unusedSimpArgs false
set_option linter.unusedSectionVars false
section
namespace Go.Proofs.YtmhbpifhpolghaaGreat
open Go.RowKit Go.Lib Go.Tk Go.Shelf Go.Vc Go.Sx
structure DocA where
  la : Option Addr
  lc : Nat
  ta : Option Addr
  tc : Nat
  va : Option Addr
  vc : Nat
def docL (p : DocV × DocA) : List Value := [.int .u8 p.1.t.c, .int .u64 p.1.t.r, .string p.1.s.name, .slice p.2.la p.1.s.legs.length p.2.lc, .int .i64 p.1.s.fare, .slice p.2.ta p.1.s.taxes.length p.2.tc, .int .i64 p.1.s.pen, .slice p.2.va p.1.vals.length p.2.vc, .int .u8 p.1.frm.c, .int .u64 p.1.frm.r, .int .u8 p.1.dst.c, .int .u64 p.1.dst.r, .int .i64 p.1.credit, .int .i64 p.1.paid, .int .i64 p.1.back, .int .i64 p.1.kept, .int .i64 p.1.left]
def docW (p : DocV × DocA) : Value := .agg (docL p).toArray
def docSA (d : DocV) (a : DocA) : List SV := docS d (.val (.slice a.la d.s.legs.length a.lc)) (.val (.slice a.ta d.s.taxes.length a.tc)) (.val (.slice a.va d.vals.length a.vc))
theorem docSA_den (ε : Env) (p : DocV × DocA) : (SV.agg (docSA p.1 p.2)).den ε = docW p := rfl
structure DocIn (S : Nat → Prop) (w : World) (p : DocV × DocA) : Prop where
  legs : Row w p.2.la (cellsL encLeg p.1.s.legs)
  taxes : Row w p.2.ta (cellsL encTax p.1.s.taxes)
  vals : Row w p.2.va (p.1.vals.map (.int .i64))
  sl : ∀ x, p.2.la = some x → S x.block
  st : ∀ x, p.2.ta = some x → S x.block
  sv : ∀ x, p.2.va = some x → S x.block
  okl : SlOk p.2.la p.1.s.legs.length p.2.lc
  okt : SlOk p.2.ta p.1.s.taxes.length p.2.tc
  okv : SlOk p.2.va p.1.vals.length p.2.vc
theorem Row.stays {S : Nat → Prop} {w w' : World} {a : Option Addr} {xs : List Value} (h : Row w a xs) (hk : Keep S w w') (hs : ∀ x, a = some x → S x.block) (hlt : ∀ k, S k → k < w.heap.size) : Row w' a xs := fun i hi => by
  obtain ⟨b, off, ha, hc⟩ := h i hi
  have hS : S b := hs _ ha
  exact ⟨b, off, ha, by
    unfold World.cell? at hc ⊢
    rw [hk.block b hS (hlt b hS)]; exact hc⟩
theorem DocIn.stays {S : Nat → Prop} {w w' : World} {p : DocV × DocA} (h : DocIn S w p) (hk : Keep S w w') (hlt : ∀ k, S k → k < w.heap.size) : DocIn S w' p :=
  ⟨Row.stays h.legs hk h.sl hlt, Row.stays h.taxes hk h.st hlt, Row.stays h.vals hk h.sv hlt, h.sl, h.st, h.sv, h.okl, h.okt, h.okv⟩
theorem DocIn.more {S S' : Nat → Prop} {w : World} {p : DocV × DocA} (h : DocIn S w p) (hs : ∀ k, S k → S' k) : DocIn S' w p :=
  ⟨h.legs, h.taxes, h.vals, fun x e => hs _ (h.sl x e), fun x e => hs _ (h.st x e), fun x e => hs _ (h.sv x e), h.okl, h.okt, h.okv⟩
def docKV (L : List (DocV × DocA)) : List (Tid × (DocV × DocA)) := L.map fun p => (p.1.t, p)
def docsG (L M : List (DocV × DocA)) : CF := fun b _ => {
  at_ S w := (S b ∧ MapAt tidK w b (ents docW (docKV L))) ∧ (∃ Sd : Nat → Prop, (∀ k, Sd k → S k ∧ k ≠ b) ∧ (∀ p ∈ L, DocIn Sd w p) ∧ ∀ p ∈ M, DocIn Sd w p)
  stable {S w w'} hk hi h := ⟨⟨h.1.1, h.1.2.same (hk.block b h.1.1 (hi b h.1.1))⟩, by
    obtain ⟨Sd, h1, h2, h3⟩ := h.2
    have hk' : Keep Sd w w' := ⟨hk.os, hk.tape, hk.output, hk.size, fun k hs hl => hk.block k (h1 k hs).1 hl⟩
    exact ⟨Sd, h1, fun p hp => (h2 p hp).stays hk' fun k hs => hi k (h1 k hs).1, fun p hp => (h3 p hp).stays hk' fun k hs => hi k (h1 k hs).1⟩⟩ }
def docsF (L : List (DocV × DocA)) : CF := docsG L []
def docsX (ds : List DocV) : CF := fun b v => exC fun (x : { L : List (DocV × DocA) // L.map (·.1) = ds }) => docsF x.1 b v
theorem docs_rd {L M : List (DocV × DocA)} {p : DocV × DocA} (hp : p ∈ L ∨ p ∈ M) : (∀ b v, Rd (docsG L M b v) p.2.la (cellsL encLeg p.1.s.legs)) ∧ (∀ b v, Rd (docsG L M b v) p.2.ta (cellsL encTax p.1.s.taxes)) ∧ (∀ b v, Rd (docsG L M b v) p.2.va (p.1.vals.map (.int .i64))) := by
  have key : ∀ b v S w, (docsG L M b v).at_ S w → ∃ Sd, DocIn Sd w p := fun b v S w h => by
    obtain ⟨Sd, h1, h2, h3⟩ := h.2
    exact ⟨Sd, hp.elim (h2 p) (h3 p)⟩
  exact ⟨fun b v S w h => by obtain ⟨Sd, h⟩ := key b v S w h; exact h.legs, fun b v S w h => by obtain ⟨Sd, h⟩ := key b v S w h; exact h.taxes, fun b v S w h => by obtain ⟨Sd, h⟩ := key b v S w h; exact h.vals⟩
def DT : TypeId := 106
def docA0 : DocA := ⟨none, 0, none, 0, none, 0⟩
theorem zero_doc (w : World) : (zeroValue 42).run Tryz.prog w = .ok (docW (doc0, docA0)) w := still_run (by kernel_rfl) w
theorem docsG_at {L M : List (DocV × DocA)} (b : Nat) (v : Value) (S : Nat → Prop) (w : World) (h : (docsG L M b v).at_ S w) : MapAt tidK w b (ents docW (docKV L)) := h.1.2
theorem look_docs (L M : List (DocV × DocA)) {t : Tid} (ht : TidOk t) : OpG Tryz.prog (isLk DT true) lkXY [.map 0 0, .agg (tidS t)] [((0, 0), .fam (docsG L M))] [] (.tup [.agg (docSA ((lkt (docKV L) t).getD (doc0, docA0)).1 ((lkt (docKV L) t).getD (doc0, docA0)).2), .val (.bool (lkt (docKV L) t).isSome)]) [] :=
  look_open (K := tidK) Tryz.underlying106 zero_doc docsG_at ht (fun _ => rfl) (fun ε => by
    rw [lk_ents]
    simp only [SV.den, SV.dens, if_true]
    cases lkt (docKV L) t <;> rfl) (by rfl)
theorem upd_docs (L L' : List (DocV × DocA)) (p : DocV × DocA) (ht : TidOk p.1.t) (hp : (putt (docKV L) p.1.t p).Perm (docKV L')) : OpG Tryz.prog (isUp DT) upXYZ [.map 0 0, .agg (tidS p.1.t), .agg (docSA p.1 p.2)] [] [((0, 0), .fam (docsG L [p]))] (.val undef) [((0, 0), .fam (docsF L'))] :=
  upd_open (K := tidK) Tryz.underlying106 (fun b v S w h => h.1) (fun b v S w w' h hlt hm hg => by
    obtain ⟨es, clock, hb, hp0, hn, -⟩ := h.1.2
    have hn : ((docKV L).map (·.1)).Nodup := by have := hn; unfold ents at this; rwa [List.map_map] at this
    obtain ⟨Sd, h1, h2, h3⟩ := h.2
    have hk : Keep Sd w w' := ⟨hg.os, hg.tape, hg.output, hg.size, fun k hs hl => hg.block k hl (fun e => (h1 k hs).2 (by cases e; rfl))⟩
    have hin : ∀ q ∈ L', DocIn Sd w' q := fun q hq => by
      have hq' : (q.1.t, q) ∈ docKV L' := List.mem_map_of_mem (f := fun p : DocV × DocA => (p.1.t, p)) hq
      have h4 := hp.mem_iff.2 hq'
      have h5 : DocIn Sd w q := by
        have h6 := lkt_of (putt_nodup hn p.1.t p) h4
        rw [lkt_put] at h6
        by_cases e : p.1.t = q.1.t
        · rw [if_pos e] at h6; cases h6; exact h3 p (List.mem_singleton.2 rfl)
        · rw [if_neg e] at h6
          obtain ⟨r, hr, he⟩ := List.mem_map.1 (lkt_mem h6)
          have : r = q := (Prod.mk.inj he).2
          subst this; exact h2 r hr
      exact h5.stays hk fun k hs => hlt k (h1 k hs).1
    exact ⟨⟨h.1.1, hm.perm ((put_ents docW p.1.t p hn).trans (by unfold ents; exact hp.map _))⟩, Sd, h1, hin, fun q hq => by cases hq⟩) ht (fun _ => rfl) (fun ε => docSA_den ε p)
theorem len_docs (L M : List (DocV × DocA)) : OpG Tryz.prog (isLenM Tryz.prog) lenX [.map 0 0] [((0, 0), .fam (docsG L M))] [] (.val (.int .i64 (L.length : Int))) [] :=
  len_open docsG_at (by simp [ents, docKV])
theorem len_docsX (ds : List DocV) : OpG Tryz.prog (isLenM Tryz.prog) lenX [.map 0 0] [((0, 0), .fam (docsX ds))] [] (.val (.int .i64 (ds.length : Int))) [] := by
  have h : ∀ b v S w, (docsX ds b v).at_ S w → ∃ L : List (Tid × Value), MapAt tidK w b L ∧ L.length = ds.length := fun b v S w ⟨x, h⟩ => ⟨_, docsG_at b v S w h, by simp [ents, docKV, ← x.2]⟩
  intro o ho
  refine ⟨(len_docs [] [] o ho).1, fun ε ρ R w hx hM => ?_⟩
  have hM : Mem (docsX ds (ε 0 0).1 (ε 0 0).2 :: R) w := hM
  obtain ⟨y, hM'⟩ := hM.ex
  have := (len_docs y.1 [] o ho).2 ε ρ R w hx hM'
  have hl : y.1.length = ds.length := (List.length_map _).symm.trans (congrArg List.length y.2)
  rw [hl] at this
  exact res_mono (fun u w' ⟨x, h1, h2⟩ => ⟨x, h1, by
    have h2 : Mem (docsF y.1 (eset ε 1 x 0 0).1 (eset ε 1 x 0 0).2 :: R) w' := h2
    exact Mem.in_ex y h2⟩) this
theorem docs_join {L : List (DocV × DocA)} {p : DocV × DocA} {b : Nat} {v : Value} {n m q : Nat} {R : List Chunk} {w : World} (hn : n = p.1.s.legs.length) (hm : m = p.1.s.taxes.length) (hq : q = p.1.vals.length)
    (h : Mem (docsF L b v :: rowC 48 3 (.slice p.2.la n p.2.lc) n (cellsL encLeg p.1.s.legs) :: rowC 172 2 (.slice p.2.ta m p.2.tc) m (cellsL encTax p.1.s.taxes) :: rowC 2 1 (.slice p.2.va q p.2.vc) q (p.1.vals.map (.int .i64)) :: R) w) : Mem (docsG L [p] b v :: R) w := by
  subst hn; subst hm; subst hq
  refine mem_join (l := [_, _, _, _]) h ?_
  rintro S ⟨F, f1, f2, f3⟩
  have a0 := f2 0 _ rfl
  have a1 := f2 1 _ rfl
  have a2 := f2 2 _ rfl
  have a3 := f2 3 _ rfl
  obtain ⟨⟨hb, hmap⟩, Sd, s1, s2, -⟩ := a0
  have ok : ∀ {E size n : Nat} {a : Option Addr} {c : Nat} {xs : List Value}, RowF E size w (.slice a n c) n xs → Row w a xs ∧ SlOk a n c := fun {E size n a c xs} hr => by
    obtain ⟨a', c', hv, hrow, -⟩ := hr.row
    cases hv
    refine ⟨hrow, ⟨fun e => ?_⟩⟩
    obtain ⟨-, ⟨h1, h2⟩ | ⟨g, cap, cur, h1, -⟩⟩ := hr
    · cases h1; exact ⟨rfl, rfl⟩
    · cases h1; cases e
  have r1 := ok a1.2
  have r2 := ok a2.2
  have r3 := ok a3.2
  have blk : ∀ {a : Option Addr} {n c i : Nat}, (∀ g, (Value.slice a n c).ownBlock = some g → F i g) → ∀ x, a = some x → F i x.block := fun h x e => by subst e; exact h _ rfl
  have ne : ∀ i k, i < 4 → F i k → S k := fun i k hi hk => f1 i k (by simpa using hi) hk
  refine ⟨⟨ne 0 b (by decide) hb, hmap⟩, fun k => Sd k ∨ F 1 k ∨ F 2 k ∨ F 3 k, ?_, fun r hr => (s2 r hr).more fun k hk => .inl hk, fun r hr => ?_⟩
  · rintro k (hk | hk | hk | hk)
    · exact ⟨ne 0 k (by decide) (s1 k hk).1, (s1 k hk).2⟩
    · exact ⟨ne 1 k (by decide) hk, fun e => f3 1 0 k (by simp) (by simp) (by decide) hk (by rw [e]; exact hb)⟩
    · exact ⟨ne 2 k (by decide) hk, fun e => f3 2 0 k (by simp) (by simp) (by decide) hk (by rw [e]; exact hb)⟩
    · exact ⟨ne 3 k (by decide) hk, fun e => f3 3 0 k (by simp) (by simp) (by decide) hk (by rw [e]; exact hb)⟩
  · rw [List.mem_singleton] at hr
    subst hr
    exact ⟨r1.1, r2.1, r3.1, fun x e => .inr (.inl (blk a1.1 x e)), fun x e => .inr (.inr (.inl (blk a2.1 x e))), fun x e => .inr (.inr (.inr (blk a3.1 x e))), r1.2, r2.2, r3.2⟩
def CopiedF : Nat := 38
def docR (d : DocV) : Heap := [((1, 0), legR d.s.legs.length d.s.legs), ((1, 1), taxR d.s.taxes.length d.s.taxes), ((1, 2), i64R d.vals.length d.vals)]
structure DocSmall (d : DocV) : Prop where
  nl : d.s.legs.length ≤ 1073741824
  nt : d.s.taxes.length ≤ 1073741824
  nv : d.vals.length ≤ 1073741824
theorem copied_w (F : CF) {d : DocV} {a : DocA} (hl : ∀ b v, Rd (F b v) a.la (cellsL encLeg d.s.legs)) (ht : ∀ b v, Rd (F b v) a.ta (cellsL encTax d.s.taxes)) (hv : ∀ b v, Rd (F b v) a.va (d.vals.map (.int .i64)))
    (ol : SlOk a.la d.s.legs.length a.lc) (ot : SlOk a.ta d.s.taxes.length a.tc) (ov : SlOk a.va d.vals.length a.vc) (sm : DocSmall d) :
    CallOK Tryz.prog CopiedF [.agg (docSA d a)] [((0, 0), .fam F)] [] (.agg (docS d (.raw 1 0) (.raw 1 1) (.raw 1 2))) (docR d) := by
  have k1 := cloneL0 F hl rfl ol sm.nl
  have k2 := cloneT0 F ht rfl ot sm.nt
  have k3 := cloneI0 F hv rfl ov sm.nv
  exact callOK_run 400 [hC 1 3 k1, hC 1 7 k2, hC 1 10 k3] (by kernel_rfl) (by kernel_rfl)
theorem docs_ok {L M : List (DocV × DocA)} {p : DocV × DocA} (hp : p ∈ L ∨ p ∈ M) {b : Nat} {v : Value} {R : List Chunk} {w : World} (h : Mem (docsG L M b v :: R) w) : SlOk p.2.la p.1.s.legs.length p.2.lc ∧ SlOk p.2.ta p.1.s.taxes.length p.2.tc ∧ SlOk p.2.va p.1.vals.length p.2.vc := by
  refine h.of 0 rfl (φ := _) fun S hS => ?_
  obtain ⟨Sd, h1, h2, h3⟩ := hS.2
  have hd : DocIn Sd w p := hp.elim (h2 p) (h3 p)
  exact ⟨hd.okl, hd.okt, hd.okv⟩
theorem copied_in (L : List (DocV × DocA)) (p : DocV × DocA) (hp : p ∈ L) (sm : DocSmall p.1) : CallOK Tryz.prog CopiedF [.agg (docSA p.1 p.2)] [] [((0, 1), .fam (docsF L))] (.agg (docS p.1 (.raw 1 0) (.raw 1 1) (.raw 1 2))) (((0, 1), .fam (docsX (L.map (·.1)))) :: docR p.1) := by
  refine CallOK.mv2 1 ?_ rfl rfl rfl
  have hr := docs_rd (L := L) (M := []) (p := p) (.inl hp)
  intro ε R w hM
  have hM' : Mem (docsF L (ε 0 0).1 (ε 0 0).2 :: R) w := hM
  have ok := docs_ok (p := p) (.inl hp) hM'
  have h := (copied_w (docsF L) hr.1 hr.2.1 hr.2.2 ok.1 ok.2.1 ok.2.2 sm).of_rd
  refine (h.post_mono (post' := ((0, 0), .fam (docsX (L.map (·.1)))) :: docR p.1) ?_) ε R w hM
  intro ε R w hM
  have hM : Mem (docsF L (ε 0 0).1 (ε 0 0).2 :: (hden ε (docR p.1) ++ R)) w := hM
  exact Mem.in_ex ⟨L, rfl⟩ hM
structure BookOk (B : BookV) : Prop where
  self : 0 ≤ B.self ∧ B.self < B.n
  n : 2 ≤ B.n ∧ B.n ≤ 8
  docs : ∀ (i : Nat) (d : DocV), B.docs[i]? = some d → d.t = ⟨B.self, (i : Int) + 1⟩
  many : B.docs.length ≤ 32
def BookV.nextT (B : BookV) : Tid := ⟨B.self, (B.docs.length : Int) + 1⟩
def BookV.issE (B : BookV) (s : SaleV) : Int := bif decide ((32 : Int) ≤ (B.docs.length : Int)) then 3 else makeE B.self ((B.docs.length : Int) + 1) s B.n
def ownNew (l : Leg) (v : Int) : OwnV := ⟨⟨l, v, 1, 0⟩, false, 0, false, false⟩
def issO (t : Tid) (s : SaleV) (vs : List Int) (L : OwnsV) : Nat → OwnsV
  | 0 => L
  | i + 1 => putt (issO t s vs L i) ⟨t, (i : Int)⟩ (ownNew (s.legs.getD i leg0) (vs.getD i 0))
def BookV.issued (B : BookV) (s : SaleV) : BookV := { B with docs := B.docs ++ [docMade B.nextT s], owns := issO B.nextT s (shareV s.fare (wsOf s)) B.owns (shareV s.fare (wsOf s)).length }
def BookV.issue (B : BookV) (s : SaleV) : BookV := bif decide (B.issE s = 0) then B.issued s else B
def IssueF : Nat := 11
theorem issue_no (F : CF) {B : BookV} (hb : BookOk B) {s : SaleV} {A : SaleA} (ok : SaleOk s) (hl : ∀ b v, Rd (F b v) A.la (cellsL encLeg s.legs)) (ht : ∀ b v, Rd (F b v) A.ta (cellsL encTax s.taxes)) (h1 : SlOk A.la s.legs.length A.lc) (h2 : SlOk A.ta s.taxes.length A.tc) (hm : B.issE s ≠ 0) :
    CallOK Tryz.prog IssueF [.ptr 0 0 0, .agg (salS s (.val (.slice A.la s.legs.length A.lc)) (.val (.slice A.ta s.taxes.length A.tc)))] [((0, 9), .fam F)] (bkH (docsX B.docs) B) (.tup [.agg (docS doc0 nilS nilS nilS), eN (B.issE s)]) (bkH (docsX B.docs) B) := by
  have c1 := len_docsX B.docs
  rcases Bool.eq_false_or_eq_true (decide ((32 : Int) ≤ (B.docs.length : Int))) with g1 | g1
  · have e : B.issE s = 3 := by unfold BookV.issE; rw [g1]; rfl
    rw [e]
    exact callOK_run 400 [hG 3 4 c1, hB 3 5 _ _ g1] (by kernel_rfl) (by kernel_rfl)
  · have e : B.issE s = makeE B.self ((B.docs.length : Int) + 1) s B.n := by unfold BookV.issE; rw [g1]; rfl
    rw [e] at hm ⊢
    have c2 := (make_no F ok (c := B.self) (r := (B.docs.length : Int) + 1) (n := B.n) (by have := hb.self; have := hb.n; omega) hl ht (fun e => (h1.nil e).2) (fun e => (h2.nil e).2) hm).mv 9 rfl rfl rfl
    have := hb.many
    have w1 : IntKind.i64.wrap ((B.docs.length : Int) + 1) = (B.docs.length : Int) + 1 := wr_i64 (by omega)
    have w2 : IntKind.u64.wrap ((B.docs.length : Int) + 1) = (B.docs.length : Int) + 1 := wr_u64 (by omega)
    have g2 : (!decide (makeE B.self ((B.docs.length : Int) + 1) s B.n = 0)) = true := by simpa using hm
    exact callOK_run 400 [hG 3 4 c1, hB 3 5 _ _ g1, hG 5 8 c1, hI 5 9 IntKind.i64 _ _ w1, hI 5 10 IntKind.u64 _ _ w2, hC 5 17 c2, hB 6 1 _ _ g2] (by kernel_rfl) (by kernel_rfl)
theorem docKV_map (L : List (DocV × DocA)) : (docKV L).map (·.1) = (L.map (·.1)).map (·.t) := by simp [docKV]
theorem BookOk.fresh {B : BookV} (hb : BookOk B) {L : List (DocV × DocA)} (hL : L.map (·.1) = B.docs) (p : DocV × DocA) (hp : p.1.t = B.nextT) : (putt (docKV L) p.1.t p).Perm (docKV (L ++ [p])) := by
  have hn : p.1.t ∉ (docKV L).map (·.1) := fun h => by
    rw [docKV_map, hL] at h
    obtain ⟨d, hd, he⟩ := List.mem_map.1 h
    obtain ⟨i, hi⟩ := List.mem_iff_getElem?.1 hd
    have h1 := hb.docs i d hi
    have h2 := (List.getElem?_eq_some_iff.1 hi).1
    rw [he, hp] at h1
    have h3 := congrArg Tid.r h1
    simp only [BookV.nextT] at h3
    omega
  rw [putt_new _ _ hn]
  simp [docKV]
theorem issue_ok (F : CF) {B : BookV} (hb : BookOk B) {s : SaleV} {A : SaleA} (ok : SaleOk s) (hl : ∀ b v, Rd (F b v) A.la (cellsL encLeg s.legs)) (ht : ∀ b v, Rd (F b v) A.ta (cellsL encTax s.taxes)) (h1 : SlOk A.la s.legs.length A.lc) (h2 : SlOk A.ta s.taxes.length A.tc) (hm : B.issE s = 0) :
    CallOK Tryz.prog IssueF [.ptr 0 0 0, .agg (salS s (.val (.slice A.la s.legs.length A.lc)) (.val (.slice A.ta s.taxes.length A.tc)))] [((0, 9), .fam F)] (bkH (docsX B.docs) B) (.tup [.agg (docS (docMade B.nextT s) (.raw 1 0) (.raw 1 1) (.raw 1 2)), eN 0]) (bkH (docsX (B.issued s).docs) (B.issued s) ++ docR (docMade B.nextT s)) := by
  have c1 := len_docsX B.docs
  have g1 : decide ((32 : Int) ≤ (B.docs.length : Int)) = false := by
    cases h : decide ((32 : Int) ≤ (B.docs.length : Int)) with
    | false => rfl
    | true => unfold BookV.issE at hm; rw [h] at hm; cases hm
  have hm : makeE B.self ((B.docs.length : Int) + 1) s B.n = 0 := by unfold BookV.issE at hm; rw [g1] at hm; exact hm
  have hself : 0 ≤ B.self ∧ B.self ≤ 255 := by have := hb.self; have := hb.n; omega
  have c2 := (make_ok F ok (c := B.self) (r := (B.docs.length : Int) + 1) (n := B.n) hself hl ht h1 h2 hm).mv 9 rfl rfl rfl
  have hmany := hb.many
  have w1 : IntKind.i64.wrap ((B.docs.length : Int) + 1) = (B.docs.length : Int) + 1 := wr_i64 (by omega)
  have w2 : IntKind.u64.wrap ((B.docs.length : Int) + 1) = (B.docs.length : Int) + 1 := wr_u64 (by omega)
  have hck : checkE s B.n = 0 ∧ 1 ≤ (B.docs.length : Int) + 1 := by
    refine ⟨?_, by omega⟩
    unfold makeE at hm
    split at hm
    · cases hm
    · exact hm
  obtain ⟨-, -, hsh, -⟩ := check_shape hck.1
  obtain ⟨hS, -, l1, l4, -, -⟩ := shape_share ok hsh
  have hvl : (shareV s.fare (wsOf s)).length = s.legs.length := by rw [shareV_len hS, ws_len]
  have sm : DocSmall (docMade B.nextT s) := ⟨by have := ok.nl; show s.legs.length ≤ _; omega, by have := ok.nt; show s.taxes.length ≤ _; omega, by show (shareV s.fare (wsOf s)).length ≤ _; omega⟩
  have t0 : TidOk B.nextT := ⟨hself, by show 0 ≤ (B.docs.length : Int) + 1; omega, by show (B.docs.length : Int) + 1 ≤ _; omega⟩
  refine callOK_intro (by kernel_rfl) fun eb R => ?_
  refine leaf_cut (rgK Tryz.prog IssueF 8 []) [(0, .ptr 0 0 0), (3, .ptr 1 0 0), (4, .ptr 1 1 0), (6, .ptr 1 2 0)]
    ([((0, 9), .fam F)] ++ (bkH (docsX B.docs) B ++ [((1, 0), .box none (salS s (.val (.slice A.la s.legs.length A.lc)) (.val (.slice A.ta s.taxes.length A.tc)))), ((1, 1), .box none (docS doc0 nilS nilS nilS)), ((1, 2), .box none (docS (docMade B.nextT s) (.raw 1 3) (.raw 1 4) (.raw 1 5))), ((1, 3), legR s.legs.length s.legs), ((1, 4), taxR s.taxes.length s.taxes), ((1, 5), i64R (shareV s.fare (wsOf s)).length (shareV s.fare (wsOf s)))]))
    calNone false 400 [hG 3 4 c1, hB 3 5 _ _ g1, hG 5 8 c1, hI 5 9 IntKind.i64 _ _ w1, hI 5 10 IntKind.u64 _ _ w2, hC 5 17 c2, .stop 8] calNone_ok (by kernel_rfl) ?_
  refine go_row (1, 3) 48 3 s.legs.length (cellsL encLeg s.legs) (by kernel_rfl) fun la lc hla => ?_
  refine go_row (1, 4) 172 2 s.taxes.length (cellsL encTax s.taxes) (by kernel_rfl) fun ta tc hta => ?_
  refine go_row (1, 5) 2 1 (shareV s.fare (wsOf s)).length ((shareV s.fare (wsOf s)).map (.int .i64)) (by kernel_rfl) fun va vc hva => ?_
  have p : DocV × DocA := (docMade B.nextT s, ⟨la, lc, ta, tc, va, vc⟩)
  refine go_as [(0, .ptr 0 0 0), (3, .ptr 1 0 0), (4, .ptr 1 1 0), (6, .ptr 1 2 0)] ([((0, 9), .fam F)] ++ (bkH (docsX B.docs) B ++ [((1, 0), .box none (salS s (.val (.slice A.la s.legs.length A.lc)) (.val (.slice A.ta s.taxes.length A.tc)))), ((1, 1), .box none (docS doc0 nilS nilS nilS)), ((1, 2), .box none (docSA (docMade B.nextT s) ⟨la, lc, ta, tc, va, vc⟩)), ((1, 3), .fam fun _ _ => rowC 48 3 (.slice la s.legs.length lc) s.legs.length (cellsL encLeg s.legs)), ((1, 4), .fam fun _ _ => rowC 172 2 (.slice ta s.taxes.length tc) s.taxes.length (cellsL encTax s.taxes)), ((1, 5), .fam fun _ _ => rowC 2 1 (.slice va (shareV s.fare (wsOf s)).length vc) (shareV s.fare (wsOf s)).length ((shareV s.fare (wsOf s)).map (.int .i64)))]))
    (by kernel_rfl) (by kernel_rfl) ?_
  refine go_open (X := { L : List (DocV × DocA) // L.map (·.1) = B.docs }) (fun x => [((0, 1), .fam (docsG x.1 [(docMade B.nextT s, ⟨la, lc, ta, tc, va, vc⟩)])), ((0, 9), .fam F), ((0, 0), .box none [.val (.int .u8 B.self), .val (.int .i64 B.n), .map 0 1, .map 0 2, .map 0 3]), ((0, 2), ownsF B.owns), ((0, 3), heldsF B.helds), ((1, 0), .box none (salS s (.val (.slice A.la s.legs.length A.lc)) (.val (.slice A.ta s.taxes.length A.tc)))), ((1, 1), .box none (docS doc0 nilS nilS nilS)), ((1, 2), .box none (docSA (docMade B.nextT s) ⟨la, lc, ta, tc, va, vc⟩))])
    (fun ε w hM => by
      have m1 := (((hM.front 10 rfl).front 10 rfl).front 10 rfl).front 5 rfl
      obtain ⟨x, m2⟩ := m1.ex
      exact ⟨x, docs_join (p := (docMade B.nextT s, ⟨la, lc, ta, tc, va, vc⟩)) rfl rfl rfl m2⟩) (fun x => by kernel_rfl) ?_
  rintro ⟨L, hL⟩
  have hp := hb.fresh hL (docMade B.nextT s, ⟨la, lc, ta, tc, va, vc⟩) rfl
  have c3 := upd_docs L (L ++ [(docMade B.nextT s, ⟨la, lc, ta, tc, va, vc⟩)]) (docMade B.nextT s, ⟨la, lc, ta, tc, va, vc⟩) t0 hp
  have hmem : (docMade B.nextT s, (⟨la, lc, ta, tc, va, vc⟩ : DocA)) ∈ L ++ [(docMade B.nextT s, ⟨la, lc, ta, tc, va, vc⟩)] := List.mem_append_right _ (List.mem_singleton.2 rfl)
  have hrd := docs_rd (M := []) (.inl hmem)
  have hds : (L ++ [(docMade B.nextT s, (⟨la, lc, ta, tc, va, vc⟩ : DocA))]).map (·.1) = (B.issued s).docs := by rw [List.map_append, hL]; rfl
  have c4 := copied_in _ _ hmem sm
  rw [hds] at c4
  refine go_loop (X := { i : Nat // i ≤ s.legs.length }) 0 [] (fun x => ([(0, .ptr 0 0 0), (3, .ptr 1 0 0), (4, .ptr 1 1 0), (6, .ptr 1 2 0), (55, .val (.slice va (shareV s.fare (wsOf s)).length vc)), (56, .val (.int .i64 ((shareV s.fare (wsOf s)).length : Int))), (57, .val (.int .i64 (x.1 : Int)))],
      [((0, 1), .fam (docsF (L ++ [(docMade B.nextT s, ⟨la, lc, ta, tc, va, vc⟩)]))), ((0, 9), .fam F), ((0, 0), .box none [.val (.int .u8 B.self), .val (.int .i64 B.n), .map 0 1, .map 0 2, .map 0 3]), ((0, 2), ownsF (issO B.nextT s (shareV s.fare (wsOf s)) B.owns x.1)), ((0, 3), heldsF B.helds), ((1, 0), .box none (salS s (.val (.slice A.la s.legs.length A.lc)) (.val (.slice A.ta s.taxes.length A.tc)))), ((1, 1), .box none (docS doc0 nilS nilS nilS)), ((1, 2), .box none (docSA (docMade B.nextT s) ⟨la, lc, ta, tc, va, vc⟩))]))
    (fun x => s.legs.length - x.1) ⟨0, Nat.zero_le _⟩ calNone false 400 [hG 8 7 c3] calNone_ok (by kernel_rfl) ?_
  rintro ⟨i, hi⟩ J hJ
  by_cases h : i < s.legs.length
  · have q1 : decide ((i : Int) < ((shareV s.fare (wsOf s)).length : Int)) = true := decide_eq_true (by omega)
    have hv : i < (shareV s.fare (wsOf s)).length := by omega
    have q2 := idx_openG (P := Tryz.prog) (t := 40) (e := 2) (size := 1) (j := 1) (k := .i64) (cap := vc) (n := (shareV s.fare (wsOf s)).length) Tryz.underlying40 (by kernel_rfl) (by rw [List.length_map, Nat.mul_one]; rfl) hrd.2.2 hv
    have q3 := load_openG0 (P := Tryz.prog) (t := 2) (k := i * 1) (j := 1) (cs := [.val (.int .i64 ((shareV s.fare (wsOf s)).getD i 0))]) (u := .val (.int .i64 ((shareV s.fare (wsOf s)).getD i 0))) (by kernel_rfl) hrd.2.2 (fun ε q v hq => by
      cases q with
      | succ q => cases hq
      | zero =>
        cases hq
        show ((shareV s.fare (wsOf s)).map (Value.int .i64))[i * 1 + 0]? = _
        rw [Nat.mul_one, Nat.add_zero, List.getElem?_map, getD_some hv 0]; rfl) (by rw [List.length_map]; show 0 < (shareV s.fare (wsOf s)).length; omega)
    have q4 := idx_openG (P := Tryz.prog) (t := 33) (e := 48) (size := 3) (j := 9) (k := .i64) (cap := A.lc) (n := s.legs.length) Tryz.underlying33 (by kernel_rfl) (cellsL_len encLeg_len _) hl h
    have q5 := load_openG0 (P := Tryz.prog) (t := 48) (k := i * 3) (j := 9) (cs := legS' (s.legs.getD i leg0)) (u := .agg (legS' (s.legs.getD i leg0))) (by kernel_rfl) hl (legS_nth (getD_some h leg0)) (by rw [cellsL_len encLeg_len]; omega)
    have q6 : IntKind.u8.wrap (i : Int) = (i : Int) := wr_u8 (by omega)
    have q7 := upd_owns (issO B.nextT s (shareV s.fare (wsOf s)) B.owns i) (k := ⟨B.nextT, (i : Int)⟩) ⟨t0, by show 0 ≤ (i : Int); omega, by show (i : Int) ≤ 255; omega⟩ (ownNew (s.legs.getD i leg0) ((shareV s.fare (wsOf s)).getD i 0)) (List.Perm.refl _)
    have q8 : IntKind.i64.wrap ((i : Int) + 1) = ((i + 1 : Nat) : Int) := by rw [wr_i64 (by omega)]; omega
    exact leaf_next calNone false 400 [hB 10 0 _ _ q1, hG 11 1 q2, hG 11 2 q3, hI 12 7 IntKind.u8 _ _ q6, hG 12 12 q4, hG 12 13 q5, hG 12 17 q7, hI 13 0 IntKind.i64 _ _ q8] calNone_ok (hJ ⟨i + 1, h⟩ (by show _ - (i + 1) < _ - i; omega)) (by kernel_rfl)
  have he : i = (shareV s.fare (wsOf s)).length := by omega
  subst he
  have q1 : decide (((shareV s.fare (wsOf s)).length : Int) < ((shareV s.fare (wsOf s)).length : Int)) = false := decide_eq_false (by omega)
  exact leaf_end calNone false 400 [hB 10 0 _ _ q1, hC 14 1 c4] calNone_ok (by kernel_rfl)
end Go.Proofs.YtmhbpifhpolghaaGreat
end
