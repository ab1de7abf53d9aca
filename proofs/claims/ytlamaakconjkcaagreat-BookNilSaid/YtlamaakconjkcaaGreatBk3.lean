/- BOOK 3: the documents of a book. -/
import Derived.Test.YtlamaakconjkcaaGreatM8fa2c55
namespace Go.Proofs.YtlamaakconjkcaaGreat
set_option maxRecDepth 100000
open Go.RowKit Go.Lib Go.Tk Go.Shelf Go.Vc Go.Sx
set_option linter.unusedVariables false
set_option linter.unusedSimpArgs false

/-- where a document's lists lie -/
structure DocA where
  la : Option Addr
  lc : Nat
  ta : Option Addr
  tc : Nat
  va : Option Addr
  vc : Nat
def docL (p : DocV × DocA) : List Value := [.int .u8 p.1.t.c, .int .u64 p.1.t.r, .string p.1.s.name, .slice p.2.la p.1.s.legs.length p.2.lc, .int .i64 p.1.s.fare, .slice p.2.ta p.1.s.taxes.length p.2.tc, .int .i64 p.1.s.pen, .slice p.2.va p.1.vals.length p.2.vc, .int .u8 p.1.frm.c, .int .u64 p.1.frm.r, .int .u8 p.1.dst.c, .int .u64 p.1.dst.r, .int .i64 p.1.credit, .int .i64 p.1.paid, .int .i64 p.1.back, .int .i64 p.1.kept, .int .i64 p.1.left]
def docW (p : DocV × DocA) : Value := .agg (docL p).toArray
def docSA (d : DocV) (a : DocA) : List SV := docS d (.val (.slice a.la d.s.legs.length a.lc)) (.val (.slice a.ta d.s.taxes.length a.tc)) (.val (.slice a.va d.vals.length a.vc))
theorem docSA_den (ε : Env) (p : DocV × DocA) : (SV.agg (docSA p.1 p.2)).den ε = docW p := rfl
structure DocIn (S : Nat → Prop) (w : World) (p : DocV × DocA) : Prop where
  legs : Row w p.2.la (cellsL encLeg p.1.s.legs)
  taxes : Row w p.2.ta (cellsL encTax p.1.s.taxes)
  vals : Row w p.2.va (p.1.vals.map (.int .i64))
  sl : ∀ x, p.2.la = some x → S x.block
  st : ∀ x, p.2.ta = some x → S x.block
  sv : ∀ x, p.2.va = some x → S x.block
  okl : SlOk p.2.la p.1.s.legs.length p.2.lc
  okt : SlOk p.2.ta p.1.s.taxes.length p.2.tc
  okv : SlOk p.2.va p.1.vals.length p.2.vc
theorem Row.stays {S : Nat → Prop} {w w' : World} {a : Option Addr} {xs : List Value} (h : Row w a xs) (hk : Keep S w w') (hs : ∀ x, a = some x → S x.block) (hlt : ∀ k, S k → k < w.heap.size) : Row w' a xs := fun i hi => by
  obtain ⟨b, off, ha, hc⟩ := h i hi
  have hS : S b := hs _ ha
  exact ⟨b, off, ha, by
    unfold World.cell? at hc ⊢
    rw [hk.block b hS (hlt b hS)]; exact hc⟩
theorem DocIn.stays {S : Nat → Prop} {w w' : World} {p : DocV × DocA} (h : DocIn S w p) (hk : Keep S w w') (hlt : ∀ k, S k → k < w.heap.size) : DocIn S w' p :=
  ⟨Row.stays h.legs hk h.sl hlt, Row.stays h.taxes hk h.st hlt, Row.stays h.vals hk h.sv hlt, h.sl, h.st, h.sv, h.okl, h.okt, h.okv⟩
theorem DocIn.more {S S' : Nat → Prop} {w : World} {p : DocV × DocA} (h : DocIn S w p) (hs : ∀ k, S k → S' k) : DocIn S' w p :=
  ⟨h.legs, h.taxes, h.vals, fun x e => hs _ (h.sl x e), fun x e => hs _ (h.st x e), fun x e => hs _ (h.sv x e), h.okl, h.okt, h.okv⟩
def docKV (L : List (DocV × DocA)) : List (Tid × (DocV × DocA)) := L.map fun p => (p.1.t, p)
/-- a map of documents, whose lists lie in it, too; and some that stand in no map yet -/
def docsG (L M : List (DocV × DocA)) : CF := fun b _ => {
  at_ S w := (S b ∧ MapAt tidK w b (ents docW (docKV L))) ∧ (∃ Sd : Nat → Prop, (∀ k, Sd k → S k ∧ k ≠ b) ∧ (∀ p ∈ L, DocIn Sd w p) ∧ ∀ p ∈ M, DocIn Sd w p)
  stable {S w w'} hk hi h := ⟨⟨h.1.1, h.1.2.same (hk.block b h.1.1 (hi b h.1.1))⟩, by
    obtain ⟨Sd, h1, h2, h3⟩ := h.2
    have hk' : Keep Sd w w' := ⟨hk.os, hk.tape, hk.output, hk.size, fun k hs hl => hk.block k (h1 k hs).1 hl⟩
    exact ⟨Sd, h1, fun p hp => (h2 p hp).stays hk' fun k hs => hi k (h1 k hs).1, fun p hp => (h3 p hp).stays hk' fun k hs => hi k (h1 k hs).1⟩⟩ }
def docsF (L : List (DocV × DocA)) : CF := docsG L []
/-- documents whose lists lie wherever -/
def docsX (ds : List DocV) : CF := fun b v => exC fun (x : { L : List (DocV × DocA) // L.map (·.1) = ds }) => docsF x.1 b v
theorem docs_rd {L M : List (DocV × DocA)} {p : DocV × DocA} (hp : p ∈ L ∨ p ∈ M) : (∀ b v, Rd (docsG L M b v) p.2.la (cellsL encLeg p.1.s.legs)) ∧ (∀ b v, Rd (docsG L M b v) p.2.ta (cellsL encTax p.1.s.taxes)) ∧ (∀ b v, Rd (docsG L M b v) p.2.va (p.1.vals.map (.int .i64))) := by
  have key : ∀ b v S w, (docsG L M b v).at_ S w → ∃ Sd, DocIn Sd w p := fun b v S w h => by
    obtain ⟨Sd, h1, h2, h3⟩ := h.2
    exact ⟨Sd, hp.elim (h2 p) (h3 p)⟩
  exact ⟨fun b v S w h => by obtain ⟨Sd, h⟩ := key b v S w h; exact h.legs, fun b v S w h => by obtain ⟨Sd, h⟩ := key b v S w h; exact h.taxes, fun b v S w h => by obtain ⟨Sd, h⟩ := key b v S w h; exact h.vals⟩
def DT : TypeId := 114
def docA0 : DocA := ⟨none, 0, none, 0, none, 0⟩
theorem zero_doc (w : World) : (zeroValue 32).run Tryz.prog w = .ok (docW (doc0, docA0)) w := still_run (by kernel_rfl) w
theorem docsG_at {L M : List (DocV × DocA)} (b : Nat) (v : Value) (S : Nat → Prop) (w : World) (h : (docsG L M b v).at_ S w) : MapAt tidK w b (ents docW (docKV L)) := h.1.2
theorem look_docs (L M : List (DocV × DocA)) {t : Tid} (ht : TidOk t) : OpG Tryz.prog (isLk DT true) lkXY [.map 0 0, .agg (tidS t)] [((0, 0), .fam (docsG L M))] [] (.tup [.agg (docSA ((lkt (docKV L) t).getD (doc0, docA0)).1 ((lkt (docKV L) t).getD (doc0, docA0)).2), .val (.bool (lkt (docKV L) t).isSome)]) [] :=
  look_open (K := tidK) Tryz.underlying114 zero_doc docsG_at ht (fun _ => rfl) (fun ε => by
    rw [lk_ents]
    simp only [SV.den, SV.dens, if_true]
    cases lkt (docKV L) t <;> rfl) (by rfl)
/-- a document that stood in no map is set -/
theorem upd_docs (L L' : List (DocV × DocA)) (p : DocV × DocA) (ht : TidOk p.1.t) (hp : (putt (docKV L) p.1.t p).Perm (docKV L')) : OpG Tryz.prog (isUp DT) upXYZ [.map 0 0, .agg (tidS p.1.t), .agg (docSA p.1 p.2)] [] [((0, 0), .fam (docsG L [p]))] (.val undef) [((0, 0), .fam (docsF L'))] :=
  upd_open (K := tidK) Tryz.underlying114 (fun b v S w h => h.1) (fun b v S w w' h hlt hm hg => by
    obtain ⟨es, clock, hb, hp0, hn, -⟩ := h.1.2
    have hn : ((docKV L).map (·.1)).Nodup := by have := hn; unfold ents at this; rwa [List.map_map] at this
    obtain ⟨Sd, h1, h2, h3⟩ := h.2
    have hk : Keep Sd w w' := ⟨hg.os, hg.tape, hg.output, hg.size, fun k hs hl => hg.block k hl (fun e => (h1 k hs).2 (by cases e; rfl))⟩
    have hin : ∀ q ∈ L', DocIn Sd w' q := fun q hq => by
      have hq' : (q.1.t, q) ∈ docKV L' := List.mem_map_of_mem (f := fun p : DocV × DocA => (p.1.t, p)) hq
      have h4 := hp.mem_iff.2 hq'
      have h5 : DocIn Sd w q := by
        have h6 := lkt_of (putt_nodup hn p.1.t p) h4
        rw [lkt_put] at h6
        by_cases e : p.1.t = q.1.t
        · rw [if_pos e] at h6; cases h6; exact h3 p (List.mem_singleton.2 rfl)
        · rw [if_neg e] at h6
          obtain ⟨r, hr, he⟩ := List.mem_map.1 (lkt_mem h6)
          have : r = q := (Prod.mk.inj he).2
          subst this; exact h2 r hr
      exact h5.stays hk fun k hs => hlt k (h1 k hs).1
    exact ⟨⟨h.1.1, hm.perm ((put_ents docW p.1.t p hn).trans (by unfold ents; exact hp.map _))⟩, Sd, h1, hin, fun q hq => by cases hq⟩) ht (fun _ => rfl) (fun ε => docSA_den ε p)
theorem len_docs (L M : List (DocV × DocA)) : OpG Tryz.prog (isLenM Tryz.prog) lenX [.map 0 0] [((0, 0), .fam (docsG L M))] [] (.val (.int .i64 (L.length : Int))) [] :=
  len_open docsG_at (by simp [ents, docKV])
theorem len_docsX (ds : List DocV) : OpG Tryz.prog (isLenM Tryz.prog) lenX [.map 0 0] [((0, 0), .fam (docsX ds))] [] (.val (.int .i64 (ds.length : Int))) [] := by
  have h : ∀ b v S w, (docsX ds b v).at_ S w → ∃ L : List (Tid × Value), MapAt tidK w b L ∧ L.length = ds.length := fun b v S w ⟨x, h⟩ => ⟨_, docsG_at b v S w h, by simp [ents, docKV, ← x.2]⟩
  intro o ho
  refine ⟨(len_docs [] [] o ho).1, fun ε ρ R w hx hM => ?_⟩
  have hM : Mem (docsX ds (ε 0 0).1 (ε 0 0).2 :: R) w := hM
  obtain ⟨y, hM'⟩ := hM.ex
  have := (len_docs y.1 [] o ho).2 ε ρ R w hx hM'
  have hl : y.1.length = ds.length := (List.length_map _).symm.trans (congrArg List.length y.2)
  rw [hl] at this
  exact res_mono (fun u w' ⟨x, h1, h2⟩ => ⟨x, h1, by
    have h2 : Mem (docsF y.1 (eset ε 1 x 0 0).1 (eset ε 1 x 0 0).2 :: R) w' := h2
    exact Mem.in_ex y h2⟩) this
/-- three rows beside the map become a document's -/
theorem docs_join {L : List (DocV × DocA)} {p : DocV × DocA} {b : Nat} {v : Value} {n m q : Nat} {R : List Chunk} {w : World} (hn : n = p.1.s.legs.length) (hm : m = p.1.s.taxes.length) (hq : q = p.1.vals.length)
    (h : Mem (docsF L b v :: rowC 38 3 (.slice p.2.la n p.2.lc) n (cellsL encLeg p.1.s.legs) :: rowC 177 2 (.slice p.2.ta m p.2.tc) m (cellsL encTax p.1.s.taxes) :: rowC 2 1 (.slice p.2.va q p.2.vc) q (p.1.vals.map (.int .i64)) :: R) w) : Mem (docsG L [p] b v :: R) w := by
  subst hn; subst hm; subst hq
  refine mem_join (l := [_, _, _, _]) h ?_
  rintro S ⟨F, f1, f2, f3⟩
  have a0 := f2 0 _ rfl
  have a1 := f2 1 _ rfl
  have a2 := f2 2 _ rfl
  have a3 := f2 3 _ rfl
  obtain ⟨⟨hb, hmap⟩, Sd, s1, s2, -⟩ := a0
  have ok : ∀ {E size n : Nat} {a : Option Addr} {c : Nat} {xs : List Value}, RowF E size w (.slice a n c) n xs → Row w a xs ∧ SlOk a n c := fun {E size n a c xs} hr => by
    obtain ⟨a', c', hv, hrow, -⟩ := hr.row
    cases hv
    refine ⟨hrow, ⟨fun e => ?_⟩⟩
    obtain ⟨-, ⟨h1, h2⟩ | ⟨g, cap, cur, h1, -⟩⟩ := hr
    · cases h1; exact ⟨rfl, rfl⟩
    · cases h1; cases e
  have r1 := ok a1.2
  have r2 := ok a2.2
  have r3 := ok a3.2
  have blk : ∀ {a : Option Addr} {n c i : Nat}, (∀ g, (Value.slice a n c).ownBlock = some g → F i g) → ∀ x, a = some x → F i x.block := fun h x e => by subst e; exact h _ rfl
  have ne : ∀ i k, i < 4 → F i k → S k := fun i k hi hk => f1 i k (by simpa using hi) hk
  refine ⟨⟨ne 0 b (by decide) hb, hmap⟩, fun k => Sd k ∨ F 1 k ∨ F 2 k ∨ F 3 k, ?_, fun r hr => (s2 r hr).more fun k hk => .inl hk, fun r hr => ?_⟩
  · rintro k (hk | hk | hk | hk)
    · exact ⟨ne 0 k (by decide) (s1 k hk).1, (s1 k hk).2⟩
    · exact ⟨ne 1 k (by decide) hk, fun e => f3 1 0 k (by simp) (by simp) (by decide) hk (by rw [e]; exact hb)⟩
    · exact ⟨ne 2 k (by decide) hk, fun e => f3 2 0 k (by simp) (by simp) (by decide) hk (by rw [e]; exact hb)⟩
    · exact ⟨ne 3 k (by decide) hk, fun e => f3 3 0 k (by simp) (by simp) (by decide) hk (by rw [e]; exact hb)⟩
  · rw [List.mem_singleton] at hr
    subst hr
    exact ⟨r1.1, r2.1, r3.1, fun x e => .inr (.inl (blk a1.1 x e)), fun x e => .inr (.inr (.inl (blk a2.1 x e))), fun x e => .inr (.inr (.inr (blk a3.1 x e))), r1.2, r2.2, r3.2⟩
end Go.Proofs.YtlamaakconjkcaaGreat
