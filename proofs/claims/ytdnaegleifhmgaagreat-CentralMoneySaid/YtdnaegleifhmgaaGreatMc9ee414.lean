/- Bk3, Ce0, SxR. -/
import Derived.Test.YtdnaegleifhmgaaGreatM3fa2fb6
import Derived.Test.YtdnaegleifhmgaaGreatSxE
set_option maxRecDepth 100000
set_option linter.unusedVariables false
set_option linter.unusedSimpArgs false
set_option linter.unusedSectionVars false
section
namespace Go.Proofs.YtdnaegleifhmgaaGreat
open Go.RowKit Go.Lib Go.Tk Go.Shelf Go.Vc Go.Sx
structure DocA where
  la : Option Addr
  lc : Nat
  ta : Option Addr
  tc : Nat
  va : Option Addr
  vc : Nat
def docL (p : DocV × DocA) : List Value := [.int .u8 p.1.t.c, .int .u64 p.1.t.r, .string p.1.s.name, .slice p.2.la p.1.s.legs.length p.2.lc, .int .i64 p.1.s.fare, .slice p.2.ta p.1.s.taxes.length p.2.tc, .int .i64 p.1.s.pen, .slice p.2.va p.1.vals.length p.2.vc, .int .u8 p.1.frm.c, .int .u64 p.1.frm.r, .int .u8 p.1.dst.c, .int .u64 p.1.dst.r, .int .i64 p.1.credit, .int .i64 p.1.paid, .int .i64 p.1.back, .int .i64 p.1.kept, .int .i64 p.1.left]
def docW (p : DocV × DocA) : Value := .agg (docL p).toArray
def docSA (d : DocV) (a : DocA) : List SV := docS d (.val (.slice a.la d.s.legs.length a.lc)) (.val (.slice a.ta d.s.taxes.length a.tc)) (.val (.slice a.va d.vals.length a.vc))
theorem docSA_den (ε : Env) (p : DocV × DocA) : (SV.agg (docSA p.1 p.2)).den ε = docW p := rfl
structure DocIn (S : Nat → Prop) (w : World) (p : DocV × DocA) : Prop where
  legs : Row w p.2.la (cellsL encLeg p.1.s.legs)
  taxes : Row w p.2.ta (cellsL encTax p.1.s.taxes)
  vals : Row w p.2.va (p.1.vals.map (.int .i64))
  sl : ∀ x, p.2.la = some x → S x.block
  st : ∀ x, p.2.ta = some x → S x.block
  sv : ∀ x, p.2.va = some x → S x.block
  okl : SlOk p.2.la p.1.s.legs.length p.2.lc
  okt : SlOk p.2.ta p.1.s.taxes.length p.2.tc
  okv : SlOk p.2.va p.1.vals.length p.2.vc
theorem Row.stays {S : Nat → Prop} {w w' : World} {a : Option Addr} {xs : List Value} (h : Row w a xs) (hk : Keep S w w') (hs : ∀ x, a = some x → S x.block) (hlt : ∀ k, S k → k < w.heap.size) : Row w' a xs := fun i hi => by
  obtain ⟨b, off, ha, hc⟩ := h i hi
  have hS : S b := hs _ ha
  exact ⟨b, off, ha, by
    unfold World.cell? at hc ⊢
    rw [hk.block b hS (hlt b hS)]; exact hc⟩
theorem DocIn.stays {S : Nat → Prop} {w w' : World} {p : DocV × DocA} (h : DocIn S w p) (hk : Keep S w w') (hlt : ∀ k, S k → k < w.heap.size) : DocIn S w' p :=
  ⟨Row.stays h.legs hk h.sl hlt, Row.stays h.taxes hk h.st hlt, Row.stays h.vals hk h.sv hlt, h.sl, h.st, h.sv, h.okl, h.okt, h.okv⟩
theorem DocIn.more {S S' : Nat → Prop} {w : World} {p : DocV × DocA} (h : DocIn S w p) (hs : ∀ k, S k → S' k) : DocIn S' w p :=
  ⟨h.legs, h.taxes, h.vals, fun x e => hs _ (h.sl x e), fun x e => hs _ (h.st x e), fun x e => hs _ (h.sv x e), h.okl, h.okt, h.okv⟩
def docKV (L : List (DocV × DocA)) : List (Tid × (DocV × DocA)) := L.map fun p => (p.1.t, p)
def docsG (L M : List (DocV × DocA)) : CF := fun b _ => {
  at_ S w := (S b ∧ MapAt tidK w b (ents docW (docKV L))) ∧ (∃ Sd : Nat → Prop, (∀ k, Sd k → S k ∧ k ≠ b) ∧ (∀ p ∈ L, DocIn Sd w p) ∧ ∀ p ∈ M, DocIn Sd w p)
  stable {S w w'} hk hi h := ⟨⟨h.1.1, h.1.2.same (hk.block b h.1.1 (hi b h.1.1))⟩, by
    obtain ⟨Sd, h1, h2, h3⟩ := h.2
    have hk' : Keep Sd w w' := ⟨hk.os, hk.tape, hk.output, hk.size, fun k hs hl => hk.block k (h1 k hs).1 hl⟩
    exact ⟨Sd, h1, fun p hp => (h2 p hp).stays hk' fun k hs => hi k (h1 k hs).1, fun p hp => (h3 p hp).stays hk' fun k hs => hi k (h1 k hs).1⟩⟩ }
def docsF (L : List (DocV × DocA)) : CF := docsG L []
def docsX (ds : List DocV) : CF := fun b v => exC fun (x : { L : List (DocV × DocA) // L.map (·.1) = ds }) => docsF x.1 b v
theorem docs_rd {L M : List (DocV × DocA)} {p : DocV × DocA} (hp : p ∈ L ∨ p ∈ M) : (∀ b v, Rd (docsG L M b v) p.2.la (cellsL encLeg p.1.s.legs)) ∧ (∀ b v, Rd (docsG L M b v) p.2.ta (cellsL encTax p.1.s.taxes)) ∧ (∀ b v, Rd (docsG L M b v) p.2.va (p.1.vals.map (.int .i64))) := by
  have key : ∀ b v S w, (docsG L M b v).at_ S w → ∃ Sd, DocIn Sd w p := fun b v S w h => by
    obtain ⟨Sd, h1, h2, h3⟩ := h.2
    exact ⟨Sd, hp.elim (h2 p) (h3 p)⟩
  exact ⟨fun b v S w h => by obtain ⟨Sd, h⟩ := key b v S w h; exact h.legs, fun b v S w h => by obtain ⟨Sd, h⟩ := key b v S w h; exact h.taxes, fun b v S w h => by obtain ⟨Sd, h⟩ := key b v S w h; exact h.vals⟩
def DT : TypeId := 81
def docA0 : DocA := ⟨none, 0, none, 0, none, 0⟩
theorem zero_doc (w : World) : (zeroValue 76).run Tryz.prog w = .ok (docW (doc0, docA0)) w := still_run (by kernel_rfl) w
theorem docsG_at {L M : List (DocV × DocA)} (b : Nat) (v : Value) (S : Nat → Prop) (w : World) (h : (docsG L M b v).at_ S w) : MapAt tidK w b (ents docW (docKV L)) := h.1.2
theorem look_docs (L M : List (DocV × DocA)) {t : Tid} (ht : TidOk t) : OpG Tryz.prog (isLk DT true) lkXY [.map 0 0, .agg (tidS t)] [((0, 0), .fam (docsG L M))] [] (.tup [.agg (docSA ((lkt (docKV L) t).getD (doc0, docA0)).1 ((lkt (docKV L) t).getD (doc0, docA0)).2), .val (.bool (lkt (docKV L) t).isSome)]) [] :=
  look_open (K := tidK) Tryz.underlying81 zero_doc docsG_at ht (fun _ => rfl) (fun ε => by
    rw [lk_ents]
    simp only [SV.den, SV.dens, if_true]
    cases lkt (docKV L) t <;> rfl) (by rfl)
theorem upd_docs (L L' : List (DocV × DocA)) (p : DocV × DocA) (ht : TidOk p.1.t) (hp : (putt (docKV L) p.1.t p).Perm (docKV L')) : OpG Tryz.prog (isUp DT) upXYZ [.map 0 0, .agg (tidS p.1.t), .agg (docSA p.1 p.2)] [] [((0, 0), .fam (docsG L [p]))] (.val undef) [((0, 0), .fam (docsF L'))] :=
  upd_open (K := tidK) Tryz.underlying81 (fun b v S w h => h.1) (fun b v S w w' h hlt hm hg => by
    obtain ⟨es, clock, hb, hp0, hn, -⟩ := h.1.2
    have hn : ((docKV L).map (·.1)).Nodup := by have := hn; unfold ents at this; rwa [List.map_map] at this
    obtain ⟨Sd, h1, h2, h3⟩ := h.2
    have hk : Keep Sd w w' := ⟨hg.os, hg.tape, hg.output, hg.size, fun k hs hl => hg.block k hl (fun e => (h1 k hs).2 (by cases e; rfl))⟩
    have hin : ∀ q ∈ L', DocIn Sd w' q := fun q hq => by
      have hq' : (q.1.t, q) ∈ docKV L' := List.mem_map_of_mem (f := fun p : DocV × DocA => (p.1.t, p)) hq
      have h4 := hp.mem_iff.2 hq'
      have h5 : DocIn Sd w q := by
        have h6 := lkt_of (putt_nodup hn p.1.t p) h4
        rw [lkt_put] at h6
        by_cases e : p.1.t = q.1.t
        · rw [if_pos e] at h6; cases h6; exact h3 p (List.mem_singleton.2 rfl)
        · rw [if_neg e] at h6
          obtain ⟨r, hr, he⟩ := List.mem_map.1 (lkt_mem h6)
          have : r = q := (Prod.mk.inj he).2
          subst this; exact h2 r hr
      exact h5.stays hk fun k hs => hlt k (h1 k hs).1
    exact ⟨⟨h.1.1, hm.perm ((put_ents docW p.1.t p hn).trans (by unfold ents; exact hp.map _))⟩, Sd, h1, hin, fun q hq => by cases hq⟩) ht (fun _ => rfl) (fun ε => docSA_den ε p)
theorem docs_join {L : List (DocV × DocA)} {p : DocV × DocA} {b : Nat} {v : Value} {n m q : Nat} {R : List Chunk} {w : World} (hn : n = p.1.s.legs.length) (hm : m = p.1.s.taxes.length) (hq : q = p.1.vals.length)
    (h : Mem (docsF L b v :: rowC 43 3 (.slice p.2.la n p.2.lc) n (cellsL encLeg p.1.s.legs) :: rowC 126 2 (.slice p.2.ta m p.2.tc) m (cellsL encTax p.1.s.taxes) :: rowC 2 1 (.slice p.2.va q p.2.vc) q (p.1.vals.map (.int .i64)) :: R) w) : Mem (docsG L [p] b v :: R) w := by
  subst hn; subst hm; subst hq
  refine mem_join (l := [_, _, _, _]) h ?_
  rintro S ⟨F, f1, f2, f3⟩
  have a0 := f2 0 _ rfl
  have a1 := f2 1 _ rfl
  have a2 := f2 2 _ rfl
  have a3 := f2 3 _ rfl
  obtain ⟨⟨hb, hmap⟩, Sd, s1, s2, -⟩ := a0
  have ok : ∀ {E size n : Nat} {a : Option Addr} {c : Nat} {xs : List Value}, RowF E size w (.slice a n c) n xs → Row w a xs ∧ SlOk a n c := fun {E size n a c xs} hr => by
    obtain ⟨a', c', hv, hrow, -⟩ := hr.row
    cases hv
    refine ⟨hrow, ⟨fun e => ?_⟩⟩
    obtain ⟨-, ⟨h1, h2⟩ | ⟨g, cap, cur, h1, -⟩⟩ := hr
    · cases h1; exact ⟨rfl, rfl⟩
    · cases h1; cases e
  have r1 := ok a1.2
  have r2 := ok a2.2
  have r3 := ok a3.2
  have blk : ∀ {a : Option Addr} {n c i : Nat}, (∀ g, (Value.slice a n c).ownBlock = some g → F i g) → ∀ x, a = some x → F i x.block := fun h x e => by subst e; exact h _ rfl
  have ne : ∀ i k, i < 4 → F i k → S k := fun i k hi hk => f1 i k (by simpa using hi) hk
  refine ⟨⟨ne 0 b (by decide) hb, hmap⟩, fun k => Sd k ∨ F 1 k ∨ F 2 k ∨ F 3 k, ?_, fun r hr => (s2 r hr).more fun k hk => .inl hk, fun r hr => ?_⟩
  · rintro k (hk | hk | hk | hk)
    · exact ⟨ne 0 k (by decide) (s1 k hk).1, (s1 k hk).2⟩
    · exact ⟨ne 1 k (by decide) hk, fun e => f3 1 0 k (by simp) (by simp) (by decide) hk (by rw [e]; exact hb)⟩
    · exact ⟨ne 2 k (by decide) hk, fun e => f3 2 0 k (by simp) (by simp) (by decide) hk (by rw [e]; exact hb)⟩
    · exact ⟨ne 3 k (by decide) hk, fun e => f3 3 0 k (by simp) (by simp) (by decide) hk (by rw [e]; exact hb)⟩
  · rw [List.mem_singleton] at hr
    subst hr
    exact ⟨r1.1, r2.1, r3.1, fun x e => .inr (.inl (blk a1.1 x e)), fun x e => .inr (.inr (.inl (blk a2.1 x e))), fun x e => .inr (.inr (.inr (blk a3.1 x e))), r1.2, r2.2, r3.2⟩
end Go.Proofs.YtdnaegleifhmgaaGreat
end
section
namespace Go.Proofs.YtdnaegleifhmgaaGreat
open Go.RowKit Go.Lib Go.Tk Go.Shelf Go.Vc Go.Sx
structure PlaceV where
  key : Kid
  way : Bool
  car : Int
  st : Int
  nonce : Int
  paid : Bool
deriving DecidableEq, Inhabited
structure SlipV where
  p : PlaceV
  l : Leg
  v : Int
deriving DecidableEq, Inhabited
def place0 : PlaceV := ⟨kid0, false, 0, 0, 0, false⟩
def slip0 : SlipV := ⟨⟨⟨⟨0, 0⟩, 0⟩, false, 0, 0, 0, false⟩, ⟨0, 0, 0⟩, 0⟩
def placeS (p : PlaceV) : List SV := [.val (.int .u8 p.key.t.c), .val (.int .u64 p.key.t.r), .val (.int .u8 p.key.i), .val (.bool p.way), .val (.int .u8 p.car), .val (.int .u8 p.st), .val (.int .u32 p.nonce), .val (.bool p.paid)]
def slipS (s : SlipV) : List SV := [.val (.int .u8 s.p.key.t.c), .val (.int .u64 s.p.key.t.r), .val (.int .u8 s.p.key.i), .val (.bool s.p.way), .val (.int .u8 s.p.car), .val (.int .u8 s.p.st), .val (.int .u32 s.p.nonce), .val (.bool s.p.paid), .val (.int .u8 s.l.c), .val (.int .u16 s.l.f), .val (.int .u32 s.l.x), .val (.int .i64 s.v)]
def placeL (p : PlaceV) : List Value := [.int .u8 p.key.t.c, .int .u64 p.key.t.r, .int .u8 p.key.i, .bool p.way, .int .u8 p.car, .int .u8 p.st, .int .u32 p.nonce, .bool p.paid]
def slipL (s : SlipV) : List Value := [.int .u8 s.p.key.t.c, .int .u64 s.p.key.t.r, .int .u8 s.p.key.i, .bool s.p.way, .int .u8 s.p.car, .int .u8 s.p.st, .int .u32 s.p.nonce, .bool s.p.paid, .int .u8 s.l.c, .int .u16 s.l.f, .int .u32 s.l.x, .int .i64 s.v]
def slipW (s : SlipV) : Value := .agg (slipL s).toArray
abbrev SlipsV := List (Kid × SlipV)
def slipsF (L : SlipsV) : SC := .fam (mapT kidK slipW L)
def ST : TypeId := 82
theorem zero_slip (w : World) : (zeroValue 86).run Tryz.prog w = .ok (slipW slip0) w := still_run (by kernel_rfl) w
theorem look_slips (L : SlipsV) {k : Kid} (hk : KidOk k) : OpG Tryz.prog (isLk ST true) lkXY [.map 0 0, .agg (kidS k)] [((0, 0), slipsF L)] [] (.tup [.agg (slipS ((lkt L k).getD slip0)), .val (.bool (lkt L k).isSome)]) [] :=
  look_map (K := kidK) (encS := fun o => .agg (slipS o)) slip0 L k Tryz.underlying82 zero_slip (fun _ _ => rfl) (fun _ => rfl) hk (fun _ => rfl)
theorem upd_slips (L : SlipsV) {k : Kid} (hk : KidOk k) (o : SlipV) {L' : SlipsV} (hp : (putt L k o).Perm L') : OpG Tryz.prog (isUp ST) upXYZ [.map 0 0, .agg (kidS k), .agg (slipS o)] [] [((0, 0), slipsF L)] (.val undef) [((0, 0), slipsF L')] :=
  upd_map (K := kidK) L L' k o Tryz.underlying82 hp hk (fun _ => rfl) (fun _ => rfl)
end Go.Proofs.YtdnaegleifhmgaaGreat
end
section
namespace Go.Sx
open Go.RowKit Go.Tk Go.Lib Go.Shelf Go.Vc Go.Maps
open Go.ChangeMaps (setBlock heap_setBlock_same)
section
variable {P : Program} {κ : Type} [DecidableEq κ] {kt t e : TypeId}
def rngC (K : KeyKind P kt κ) (r m : Nat) (L left : List (κ × Value)) : Chunk where
  at_ S w := S r ∧ S m ∧ Ranging K w r m L left
  stable hk hi h := ⟨h.1, h.2.1, h.2.2.same (hk.block _ h.1 (hi _ h.1)) (hk.block _ h.2.1 (hi _ h.2.1))⟩
def CurAt (K : KeyKind P kt κ) (w : World) (r m : Nat) (p : κ × Value) : Prop :=
  ∃ es clock since seen e, w.heap[r]? = some (.mapIter (some m) since (Array.push seen e.born) clock) ∧ w.heap[m]? = some (.map es clock) ∧ e ∈ es.toList ∧ (es.toList.map (·.born)).Nodup ∧ e.key = K.kv p.1 ∧ e.val = p.2
def curC (K : KeyKind P kt κ) (r m : Nat) (L left : List (κ × Value)) (p : κ × Value) (left' : List (κ × Value)) : Chunk where
  at_ S w := S r ∧ S m ∧ Ranging K w r m L left' ∧ CurAt K w r m p ∧ left.Perm (p :: left') ∧ p ∈ L
  stable hk hi h := ⟨h.1, h.2.1, h.2.2.1.same (hk.block _ h.1 (hi _ h.1)) (hk.block _ h.2.1 (hi _ h.2.1)), by
    obtain ⟨es, clock, since, seen, e, h1, h2, h3⟩ := h.2.2.2.1
    exact ⟨es, clock, since, seen, e, (hk.block _ h.1 (hi _ h.1)).trans h1, (hk.block _ h.2.1 (hi _ h.2.1)).trans h2, h3⟩, h.2.2.2.2⟩
theorem CurAt.entry {K : KeyKind P kt κ} {w : World} {r m : Nat} {p : κ × Value} (h : CurAt K w r m p) : (Instr.entry (.pointer (some ⟨r, 0, none⟩))).run P w = .ok (.tuple #[K.kv p.1, p.2]) w := by
  obtain ⟨es, clock, since, seen, e, h1, h2, h3, h4, h5, h6⟩ := h
  rw [run_entry_at w r m since seen es clock e h1 h2 h3 h4, h5, h6]
omit [DecidableEq κ] in
theorem Ranging.next' {K : KeyKind P kt κ} {w : World} {r b : Nat} {L left : List (κ × Value)} (h : Ranging K w r b L left) (ty : TypeId) :
    (left = [] ∧ (Instr.next (.pointer (some ⟨r, 0, none⟩)) false ty).run P w = .ok (.tuple #[.bool false]) w) ∨
    ∃ p left' w', left.Perm (p :: left') ∧ p ∈ L ∧ (Instr.next (.pointer (some ⟨r, 0, none⟩)) false ty).run P w = .ok (.tuple #[.bool true, K.kv p.1, p.2]) w' ∧ Ranging K w' r b L left' ∧ w.grownBy w' (some r) ∧ CurAt K w' r b p := by
  obtain ⟨es, clock, since, seen, hne, hr, hb, h1, h2, h3, h4, h5, h6, h7, h8, h9⟩ := h
  rcases run_next_at w ty r b since clock seen es clock hr hb h6 h7 with ⟨h0, hrun⟩ | ⟨e, he, w1, hw1, hrun⟩
  · left
    refine ⟨?_, hrun⟩
    have : left.length = 0 := by
      have := h8.length_eq
      simp only [List.length_map] at this
      rw [← this]; simpa using h0
    exact List.length_eq_zero_iff.1 this
  · right
    obtain ⟨p, left', hp, hl, hrest⟩ := perm_head (((leftOf_push h4 he).map fun e => (e.key, e.val)).symm.trans h8)
    simp only [Prod.mk.injEq] at hp
    have hw1h : w1.heap = w.heap := by rcases hw1 with rfl | rfl <;> rfl
    have hb1 : (setBlock w1 r (.mapIter (some b) since (seen.push e.born) clock)).heap[b]? = some (.map es clock) := by
      simp only [setBlock, hw1h, Array.getElem?_setIfInBounds]
      rw [if_neg hne]; exact hb
    have hlt := (Array.getElem?_eq_some_iff.1 hr).1
    have hr1 : (setBlock w1 r (.mapIter (some b) since (seen.push e.born) clock)).heap[r]? = some (.mapIter (some b) since (seen.push e.born) clock) := by
      simp [setBlock, hw1h, hlt]
    refine ⟨p, left', _, hl, h9 p (hl.mem_iff.2 (List.mem_cons_self)), ?_, ⟨es, clock, since, _, hne, hr1, hb1, h1, h2, h3, h4, h5, h6, h7, hrest, fun q hq => h9 q (hl.mem_iff.2 (List.mem_cons_of_mem _ hq))⟩, ?_, ⟨es, clock, since, seen, e, hr1, hb1, (mem_left he).1, h4, hp.1.symm, hp.2.symm⟩⟩
    · rw [hrun, hp.1, hp.2]
    · refine ⟨?_, ?_, ?_, by simp [setBlock, hw1h], fun i _ hi => ?_⟩
      · rcases hw1 with rfl | rfl <;> rfl
      · rcases hw1 with rfl | rfl <;> rfl
      · rcases hw1 with rfl | rfl <;> rfl
      · simp only [setBlock, hw1h, Array.getElem?_setIfInBounds]
        rw [if_neg (fun e => hi (by rw [e]))]
theorem perm_head' {α β : Type} {l : List α} {f : α → β} {x : β} {r : List β} (h : (x :: r).Perm (l.map f)) : ∃ p l', f p = x ∧ l.Perm (p :: l') ∧ r.Perm (l'.map f) := by
  obtain ⟨p, hp, hx⟩ := List.mem_map.1 (h.mem_iff.1 (List.mem_cons_self))
  obtain ⟨s, t, rfl⟩ := List.append_of_mem hp
  refine ⟨p, s ++ t, hx, List.perm_middle, ?_⟩
  have h2 : (x :: r).Perm (x :: (s ++ t).map f) := by
    refine h.trans ?_
    rw [← hx]
    simp only [List.map_append, List.map_cons]
    exact List.perm_middle
  exact List.Perm.cons_inv h2
def isRange (t : TypeId) (o : Oper) : Bool := match o.op with
  | .range t' _ => Nat.beq t t'
  | _ => false
def rangeX (o : Oper) : List Operand := match o.op with
  | .range _ x => [x]
  | _ => []
def isNext (o : Oper) : Bool := match o.op with
  | .next _ false => true
  | _ => false
def nextX (o : Oper) : List Operand := match o.op with
  | .next x _ => [x]
  | _ => []
def isEntry (o : Oper) : Bool := match o.op with
  | .entry _ => true
  | _ => false
def entryX (o : Oper) : List Operand := match o.op with
  | .entry x => [x]
  | _ => []
theorem rangeG {K : KeyKind P kt κ} {m j : Nat} {L : List (κ × Value)} (hT : P.underlying t = some (.map kt e)) :
    OpG P (isRange t) rangeX [.val (.map (some m))] [] [((0, j), .fam fun _ _ => mapC K m L)] (.ptr 1 0 0) [((1, 0), .fam fun r _ => rngC K r m L L)] := by
  intro o ho
  unfold isRange at ho
  split at ho <;> try (cases ho; done)
  rename_i t' x hop
  have e1 := Nat.eq_of_beq_eq_true ho
  subst e1
  have hx' : rangeX o = [x] := by unfold rangeX; rw [hop]
  rw [hx']
  refine ⟨fun q hq => by rw [hop]; simpa [Op.operands] using hq, fun ε ρ R w hx hM => ?_⟩
  simp only [List.map_cons, List.map_nil, SV.dens, SV.den, List.cons.injEq, and_true] at hx
  have hM : Mem (mapC K m L :: R) w := hM
  have hm := hM.of 0 rfl (φ := MapAt K w m L) (fun S hS => hS.2)
  obtain ⟨w', hrun, h1, h2⟩ := hm.range hT
  have hE : (execOp ρ o).run P w = .ok (.value (.pointer (some ⟨w.heap.size, 0, none⟩))) w' := by
    unfold execOp; rw [hop]
    simp only [hx]
    simp [hrun, go_sem]
  refine res_ok hE ⟨fun _ => (w.heap.size, undef), by simp only [SV.den, eset_at], ?_⟩
  have h3 := hM.step 0 rfl (c' := rngC K w.heap.size m L L) (fun S hS hlt => ⟨⟨h2.os, h2.tape, h2.output, h2.size, fun b hb _ => h2.block b hb⟩, fun b => S b ∨ b = w.heap.size, ⟨.inr rfl, .inl hS.1, h1⟩, fun b hb => by
    rcases hb with hb | hb
    · exact ⟨.inl hb, Nat.lt_of_lt_of_le (hlt b hb) h2.size⟩
    · subst hb; exact ⟨.inr (Nat.le_refl _), h1.lt.1⟩⟩)
  exact h3
theorem next_doneG {K : KeyKind P kt κ} {m : Nat} {L : List (κ × Value)} :
    OpG P isNext nextX [.ptr 0 0 0] [] [((0, 0), .fam fun r _ => rngC K r m L [])] (.tup [.val (.bool false)]) [((0, 0), .fam fun r _ => rngC K r m L [])] := by
  intro o ho
  unfold isNext at ho
  split at ho <;> try (cases ho; done)
  rename_i x hop
  have hx' : nextX o = [x] := by unfold nextX; rw [hop]
  rw [hx']
  refine ⟨fun q hq => by rw [hop]; simpa [Op.operands] using hq, fun ε ρ R w hx hM => ?_⟩
  simp only [List.map_cons, List.map_nil, SV.dens, SV.den, List.cons.injEq, and_true] at hx
  have hM : Mem (rngC K (ε 0 0).1 m L [] :: R) w := hM
  have hm := hM.of 0 rfl (φ := Ranging K w (ε 0 0).1 m L []) (fun S hS => hS.2.2)
  rcases Ranging.next' hm o.type with ⟨-, hrun⟩ | ⟨p, left', w', hp, -⟩
  · have hE : (execOp ρ o).run P w = .ok (.value (.tuple #[.bool false])) w := by
      unfold execOp; rw [hop]
      simp only [hx]
      simp [hrun, go_sem]
    exact res_ok hE ⟨ε 1, rfl, by rw [eset_self]; exact hM⟩
  · exact absurd hp.length_eq (by simp)
theorem next_moreG {K : KeyKind P kt κ} {m : Nat} {L left : List (κ × Value)} (hl : left ≠ []) :
    OpG P isNext nextX [.ptr 0 0 0] [] [((0, 0), .fam fun r _ => rngC K r m L left)] (.tup [.val (.bool true), .any 1 1, .any 1 2]) [((0, 0), .fam fun r _ => exC fun (x : (κ × Value) × List (κ × Value)) => curC K r m L left x.1 x.2)] := by
  intro o ho
  unfold isNext at ho
  split at ho <;> try (cases ho; done)
  rename_i x hop
  have hx' : nextX o = [x] := by unfold nextX; rw [hop]
  rw [hx']
  refine ⟨fun q hq => by rw [hop]; simpa [Op.operands] using hq, fun ε ρ R w hx hM => ?_⟩
  simp only [List.map_cons, List.map_nil, SV.dens, SV.den, List.cons.injEq, and_true] at hx
  have hM : Mem (rngC K (ε 0 0).1 m L left :: R) w := hM
  have hm := hM.of 0 rfl (φ := Ranging K w (ε 0 0).1 m L left) (fun S hS => hS.2.2)
  rcases Ranging.next' hm o.type with ⟨h0, -⟩ | ⟨p, left', w', hp, hpL, hrun, hr', hg, hc⟩
  · exact absurd h0 hl
  · have hE : (execOp ρ o).run P w = .ok (.value (.tuple #[.bool true, K.kv p.1, p.2])) w' := by
      unfold execOp; rw [hop]
      simp only [hx]
      simp [hrun, go_sem]
    refine res_ok hE ⟨fun k => match k with
      | 1 => (0, K.kv p.1)
      | _ => (0, p.2), by simp only [SV.den, SV.dens, eset_at], ?_⟩
    have h3 := hM.step 0 rfl (c' := exC fun (x : (κ × Value) × List (κ × Value)) => curC K (ε 0 0).1 m L left x.1 x.2) (fun S hS hlt => ⟨⟨hg.os, hg.tape, hg.output, hg.size, fun b hb hnb => hg.block b hb (fun e => hnb (by cases e; exact hS.1))⟩, S, ⟨(p, left'), hS.1, hS.2.1, hr', hc, hp, hpL⟩, fun b hb => ⟨.inl hb, Nat.lt_of_lt_of_le (hlt b hb) hg.size⟩⟩)
    have h3 : Mem ((exC fun (x : (κ × Value) × List (κ × Value)) => curC K (ε 0 0).1 m L left x.1 x.2) :: R) w' := h3
    rw [← eset_ne (ε := ε) (show (0 : Nat) ≠ 1 by decide) (x := fun k => match k with
      | 1 => (0, K.kv p.1)
      | _ => (0, p.2))] at h3
    exact h3
theorem entryG {K : KeyKind P kt κ} {m : Nat} {L left left' : List (κ × Value)} {p : κ × Value} {ks vs : SV} (hks : ∀ ε, ks.den ε = K.kv p.1) (hvs : ∀ ε, vs.den ε = p.2) :
    OpG P isEntry entryX [.ptr 0 0 0] [] [((0, 0), .fam fun r _ => curC K r m L left p left')] (.tup [ks, vs]) [((0, 0), .fam fun r _ => rngC K r m L left')] := by
  intro o ho
  unfold isEntry at ho
  split at ho <;> try (cases ho; done)
  rename_i x hop
  have hx' : entryX o = [x] := by unfold entryX; rw [hop]
  rw [hx']
  refine ⟨fun q hq => by rw [hop]; simpa [Op.operands] using hq, fun ε ρ R w hx hM => ?_⟩
  simp only [List.map_cons, List.map_nil, SV.dens, SV.den, List.cons.injEq, and_true] at hx
  have hM : Mem (curC K (ε 0 0).1 m L left p left' :: R) w := hM
  have hc := hM.of 0 rfl (φ := CurAt K w (ε 0 0).1 m p) (fun S hS => hS.2.2.2.1)
  have hE : (execOp ρ o).run P w = .ok (.value (.tuple #[K.kv p.1, p.2])) w := by
    unfold execOp; rw [hop]
    simp only [hx]
    simp [hc.entry, go_sem]
  refine res_ok hE ⟨ε 1, by rw [eset_self]; simp only [SV.den, SV.dens, hks, hvs], ?_⟩
  rw [eset_self]
  exact hM.weaken fun S hS => ⟨hS.1, hS.2.1, hS.2.2.1⟩
omit [DecidableEq κ] in
theorem Ranging.perm {K : KeyKind P kt κ} {w : World} {r b : Nat} {L left left' : List (κ × Value)} (h : Ranging K w r b L left) (hp : left.Perm left') : Ranging K w r b L left' := by
  obtain ⟨es, clock, since, seen, hne, hr, hb, h1, h2, h3, h4, h5, h6, h7, h8, h9⟩ := h
  exact ⟨es, clock, since, seen, hne, hr, hb, h1, h2, h3, h4, h5, h6, h7, h8.trans (hp.map _), fun p hp' => h9 p (hp.mem_iff.2 hp')⟩
theorem cur_typed {α : Type} {K : KeyKind P kt κ} {enc : α → Value} {r m : Nat} {L left : List (κ × α)} {R : List Chunk} {w : World} (h : Mem ((exC fun (x : (κ × Value) × List (κ × Value)) => curC K r m (ents enc L) (ents enc left) x.1 x.2) :: R) w) :
    ∃ y : { y : (κ × α) × List (κ × α) // left.Perm (y.1 :: y.2) }, Mem (curC K r m (ents enc L) (ents enc left) (y.1.1.1, enc y.1.1.2) (ents enc y.1.2) :: R) w := by
  obtain ⟨⟨p, l⟩, h⟩ := h.ex
  have hp := h.of 0 rfl (φ := (ents enc left).Perm (p :: l)) (fun S hS => hS.2.2.2.2.1)
  obtain ⟨q, l', hq, hl, hr⟩ := perm_head' (f := fun p : κ × α => (p.1, enc p.2)) hp.symm
  refine ⟨⟨(q, l'), hl⟩, h.weaken fun S hS => ?_⟩
  obtain ⟨h1, h2, h3, h4, h5, h6⟩ := hS
  refine ⟨h1, h2, Ranging.perm h3 hr, ?_, ?_, ?_⟩
  · rw [show (q.1, enc q.2) = p from hq]; exact h4
  · rw [show (q.1, enc q.2) = p from hq]; exact h5.trans (List.Perm.cons _ hr)
  · rw [show (q.1, enc q.2) = p from hq]; exact h6
end
end Go.Sx
end
