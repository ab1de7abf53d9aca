/- Ce5, Ce6, Ce7. -/
import Derived.Test.YtdnaegleifhmgaaGreatM575c084
set_option maxRecDepth 100000
set_option linter.unusedVariables false
set_option linter.unusedSimpArgs false
set_option linter.unusedSectionVars false
section
namespace Go.Proofs.YtdnaegleifhmgaaGreat
open Go.RowKit Go.Lib Go.Tk Go.Shelf Go.Vc Go.Sx
structure SameRows (p q : DocV × DocA) : Prop where
  a : p.2 = q.2
  legs : p.1.s.legs = q.1.s.legs
  taxes : p.1.s.taxes = q.1.s.taxes
  vals : p.1.vals = q.1.vals
theorem DocIn.same {S : Nat → Prop} {w : World} {p q : DocV × DocA} (h : DocIn S w q) (e : SameRows p q) : DocIn S w p := by
  obtain ⟨e1, e2, e3, e4⟩ := e
  exact ⟨by rw [e1, e2]; exact h.legs, by rw [e1, e3]; exact h.taxes, by rw [e1, e4]; exact h.vals, by rw [e1]; exact h.sl, by rw [e1]; exact h.st, by rw [e1]; exact h.sv, by rw [e1, e2]; exact h.okl, by rw [e1, e3]; exact h.okt, by rw [e1, e4]; exact h.okv⟩
theorem upd_docsS (L : List (DocV × DocA)) (p q : DocV × DocA) (hq : q ∈ L) (e : SameRows p q) (ht : TidOk p.1.t) (hn : ((docKV L).map (·.1)).Nodup) (hs : (lkt (docKV L) p.1.t).isSome = true) : OpG Tryz.prog (isUp DT) upXYZ [.map 0 0, .agg (tidS p.1.t), .agg (docSA p.1 p.2)] [] [((0, 0), .fam (docsF L))] (.val undef) [((0, 0), .fam (docsF (putDA L p)))] :=
  upd_open (K := tidK) Tryz.underlying81 (fun b v S w h => h.1) (fun b v S w w' h hlt hm hg => by
    obtain ⟨Sd, h1, h2, h3⟩ := h.2
    have hk : Keep Sd w w' := ⟨hg.os, hg.tape, hg.output, hg.size, fun k hs hl => hg.block k hl (fun e => (h1 k hs).2 (by cases e; rfl))⟩
    have hin : ∀ x ∈ putDA L p, DocIn Sd w' x := fun x hx => by
      obtain ⟨y, hy, rfl⟩ := List.mem_map.1 hx
      have h5 : DocIn Sd w (if y.1.t = p.1.t then p else y) := by
        by_cases e1 : y.1.t = p.1.t
        · rw [if_pos e1]; exact (h2 q hq).same e
        · rw [if_neg e1]; exact h2 y hy
      exact h5.stays hk fun k hs => hlt k (h1 k hs).1
    exact ⟨⟨h.1.1, hm.perm ((put_ents docW p.1.t p hn).trans (by unfold ents; rw [putDA_kv p hn hs]))⟩, Sd, h1, hin, fun q hq => by cases hq⟩) ht (fun _ => rfl) (fun ε => docSA_den ε p)
def DocsSl (L : List (DocV × DocA)) : Prop := ∀ p ∈ L, SlOk p.2.la p.1.s.legs.length p.2.lc ∧ SlOk p.2.ta p.1.s.taxes.length p.2.tc ∧ SlOk p.2.va p.1.vals.length p.2.vc
theorem ledX2 {f : Nat} {args : List SV} {rd post : Heap} {ret : SV} {B B' : LedV} (h : ∀ L : List (DocV × DocA), L.map (·.1) = B.docs → DocsSl L → CallOK Tryz.prog f args rd (ledH (docsF L) B) ret (ledH (docsX B'.docs) B' ++ post)) : CallOK Tryz.prog f args rd (ledH (docsX B.docs) B) ret (ledH (docsX B'.docs) B' ++ post) := by
  refine ledX fun L hL ε R w hM => ?_
  refine h L hL (fun p hp => ?_) ε R w hM
  have hM1 : Mem ((hden ε rd ++ hden ε (ledH (docsF L) B)) ++ R) w := by rw [← hden_append]; exact hM
  have hM2 : Mem (docsF L (ε 0 1).1 (ε 0 1).2 :: (((SC.box none [.val (.int .i64 B.n), .map 0 1, .map 0 2]).den ε 0 0 :: (slipsF B.slips).den ε 0 2 :: []) ++ hden ε rd ++ R)) w := by
    refine mem_perm ?_ hM1
    show ((hden ε rd ++ [_, docsF L (ε 0 1).1 (ε 0 1).2, _]) ++ R).Perm _
    refine List.Perm.trans (List.Perm.append_right R List.perm_append_comm) ?_
    simp only [List.cons_append, List.nil_append, List.append_assoc]
    exact List.Perm.swap _ _ _
  exact docs_ok (.inl hp) hM2
theorem led_known {f : Nat} {args : List SV} {rd post : Heap} {ret : SV} {B B' : LedV} {L L' : List (DocV × DocA)} (h : CallOK Tryz.prog f args rd (ledH (docsF L) B) ret (ledH (docsF L') B' ++ post)) (hL : L'.map (·.1) = B'.docs) : CallOK Tryz.prog f args rd (ledH (docsF L) B) ret (ledH (docsX B'.docs) B' ++ post) :=
  h.post_mono fun ε R w hM => led_forget hL hM
def SlipsSt (S : SlipsV) : Prop := ∀ k s, lkt S k = some s → (0 ≤ s.p.st ∧ s.p.st ≤ 255) ∧ 0 ≤ s.p.nonce ∧ s.p.nonce ≤ 4294967295
structure LedOk (B : LedV) : Prop where
  n : 2 ≤ B.n ∧ B.n ≤ 8
  key : SlipsKey B.slips
  v : SlipsI64 B.slips
  st : SlipsSt B.slips
  sal : ∀ d ∈ B.docs, SaleOk d.s
  pr : ∀ d ∈ B.docs, (sumFrom 0 (priceL d.s)).2 = 0
  vals : ∀ d ∈ B.docs, d.vals.length ≤ 4
  nodup : (B.docs.map (·.t)).Nodup
  tid : ∀ d ∈ B.docs, TidOk d.t
theorem kv_nodup {L : List (DocV × DocA)} {ds : List DocV} (hL : L.map (·.1) = ds) (hn : (ds.map (·.t)).Nodup) : ((docKV L).map (·.1)).Nodup := by
  rw [docKV_map, hL]; exact hn
structure CR where
  e : Int
  t : Tid
  amt : Int
  st : List Value
  b : LedV
def failC (e : Int) (B : LedV) : CR := ⟨e, tid0, 0, [], B⟩
def toldC (B : LedV) (t : Tid) (amt : Int) (n : Nat) : CR := ⟨0, t, amt, toldN B.slips t n, B⟩
def crV (q : CR) : SV := .tup [.agg (repS 0 q.t q.amt (.raw 1 0)), eN q.e]
def stVL (l : List Value) : SC := stVn l.length l
def crP (q : CR) : Heap := ledH (docsX q.b.docs) q.b ++ [((1, 0), stVL q.st)]
theorem toldN_len (S : SlipsV) (t : Tid) : ∀ n, (toldN S t n).length = n
  | 0 => rfl
  | n + 1 => by show (toldN S t n ++ [_]).length = n + 1; rw [List.length_append, toldN_len S t n]; rfl
structure CmdV where
  kind : Int
  t : Tid
  i : Int
  s : SaleV
  amt : Int
def cmdS (c : CmdV) (A : SaleA) : List SV := [.val (.int .u8 c.kind), .val (.int .u8 c.t.c), .val (.int .u64 c.t.r), .val (.int .u8 c.i)] ++ salS c.s (.val (.slice A.la c.s.legs.length A.lc)) (.val (.slice A.ta c.s.taxes.length A.tc)) ++ [.val (.int .i64 c.amt)]
def LedV.setD (B : LedV) (d : DocV) : LedV := { B with docs := putD B.docs d }
def tid0B' (t : Tid) : Bool := decide (t.c = 0) && (decide (t.r = 0) && true)
def cvoidD (d : DocV) : DocV := { d with back := (addI d.back d.paid).1 }
def cpriceI (s : SaleV) : Int := (sumFrom 0 (priceL s)).1
def ceVoidD (B : LedV) (t : Tid) (d : DocV) : CR :=
  bif !cvoidN B.slips t (tid0B' d.frm) d.vals.length then failC 6 B
  else bif !decide ((addI d.back d.paid).2 = 0) then failC (addI d.back d.paid).2 B
  else toldC ((B.setD (cvoidD d)).setS (cturnN B.slips t 5 d.vals.length)) t (-cpriceI d.s) d.vals.length
def ceVoid (B : LedV) (who : Int) (t : Tid) : CR := match lkD B.docs t with
  | none => failC 4 B
  | some d => bif t.c != who then failC 4 B else ceVoidD B t d
theorem lkD_kv' {L : List (DocV × DocA)} {B : LedV} (hL : L.map (·.1) = B.docs) (t : Tid) : (lkt (docKV L) t).map (·.1) = lkD B.docs t := by rw [lkD_kv, hL]
theorem dAt_none {L : List (DocV × DocA)} {t : Tid} (h : lkt (docKV L) t = none) : dAt L t = (doc0, docA0) := by unfold dAt; rw [h]; rfl
theorem dAt_some {L : List (DocV × DocA)} {t : Tid} {p : DocV × DocA} (h : lkt (docKV L) t = some p) : dAt L t = p := by unfold dAt; rw [h]; rfl
def CevoidF : Nat := 54
end Go.Proofs.YtdnaegleifhmgaaGreat
end
section
namespace Go.Proofs.YtdnaegleifhmgaaGreat
open Go.RowKit Go.Lib Go.Tk Go.Shelf Go.Vc Go.Sx
theorem ownLE_none {L : List (DocV × DocA)} {t : Tid} (who : Int) (h : lkt (docKV L) t = none) : ownLE L who t = 4 := by unfold ownLE; rw [h]; rfl
theorem ownLE_not {L : List (DocV × DocA)} {t : Tid} {who : Int} (h : (t.c != who) = true) : ownLE L who t = 4 := by unfold ownLE; rw [h]; simp
theorem ownLE_ok {L : List (DocV × DocA)} {t : Tid} {who : Int} {p : DocV × DocA} (h1 : lkt (docKV L) t = some p) (h : (t.c != who) = false) : ownLE L who t = 0 := by unfold ownLE; rw [h, h1]; rfl
theorem csum_bound : ∀ (xs : List Int) (s : Int), -1125899906842624 ≤ s → s ≤ 1125899906842624 → -1125899906842624 ≤ (sumFrom s xs).1 ∧ (sumFrom s xs).1 ≤ 1125899906842624
  | [], s, h1, h2 => ⟨h1, h2⟩
  | x :: r, s, h1, h2 => by
    show _ ≤ (if (addI s x).2 = 0 then sumFrom (addI s x).1 r else (0, 7)).1 ∧ (if (addI s x).2 = 0 then sumFrom (addI s x).1 r else (0, 7)).1 ≤ _
    rcases addI_cases s x with ⟨e, -, -, h3, h4⟩ | ⟨e, -, -⟩
    · rw [if_pos e, h4]
      have := mayI_of h3
      exact csum_bound r _ this.1 this.2
    · rw [if_neg (by omega)]; omega
theorem cprice_w (F : CF) {s : SaleV} {A : SaleA} (ok : SaleOk s) (hl : ∀ b v, Rd (F b v) A.la (cellsL encLeg s.legs)) (ht : ∀ b v, Rd (F b v) A.ta (cellsL encTax s.taxes)) (h1 : A.la = none → A.lc = 0) (h2 : A.ta = none → A.tc = 0) :
    CallOK Tryz.prog PriceF [.agg (salS s (.val (.slice A.la s.legs.length A.lc)) (.val (.slice A.ta s.taxes.length A.tc)))] [((0, 1), .fam F)] [] (.tup [.val (.int .i64 (sumFrom 0 (priceL s)).1), eN (sumFrom 0 (priceL s)).2]) [] := by
  intro ε R w hM
  have hM : Mem (F (ε 0 1).1 (ε 0 1).2 :: R) w := hM
  have hs : SaleAt w s A := ⟨(hl _ _).row hM 0 rfl, (ht _ _).row hM 0 rfl, h1, h2⟩
  refine (price_any s A w hs ok).mono ?_
  rintro e w' ⟨rfl, hb⟩
  exact ⟨ε 1, rfl, by rw [eset_self]; exact hM.kept hb⟩
structure At (L : List (DocV × DocA)) (B : LedV) (p : DocV × DocA) : Prop where
  mem : p ∈ L
  lk : lkt (docKV L) p.1.t = some p
  d : p.1 ∈ B.docs
theorem at_of {L : List (DocV × DocA)} {B : LedV} (hL : L.map (·.1) = B.docs) {t : Tid} {p : DocV × DocA} (h : lkt (docKV L) t = some p) : At L B p ∧ p.1.t = t := by
  obtain ⟨h1, h2⟩ := mem_kv h
  exact ⟨⟨h1, by rw [h2]; exact h, by rw [← hL]; exact List.mem_map_of_mem h1⟩, h2⟩
theorem vN_put {L : List (DocV × DocA)} {p q : DocV × DocA} (hn : ((docKV L).map (·.1)).Nodup) (hq : lkt (docKV L) q.1.t = some q) (et : p.1.t = q.1.t) (ev : p.1.vals = q.1.vals) (t : Tid) : vN (putDA L p) t = vN L t := by
  unfold vN dAt
  rw [← putDA_kv p hn (by rw [et, hq]; rfl), lkt_put]
  by_cases e : p.1.t = t
  · rw [if_pos e]
    rw [← e, et, hq]
    show p.1.vals.length = q.1.vals.length
    rw [ev]
  · rw [if_neg e]
theorem cevoid_L {L : List (DocV × DocA)} {B : LedV} (h : LedOk B) (hL : L.map (·.1) = B.docs) (hsl : DocsSl L) {c : CmdV} (A : SaleA) (ht : TidOk c.t) (who : Int) :
    CallOK Tryz.prog CevoidF [.ptr 0 0 0, .val (.int .u8 who), .agg (cmdS c A)] [] (ledH (docsF L) B) (crV (ceVoid B who c.t)) (crP (ceVoid B who c.t)) := by
  have kn := kv_nodup hL h.nodup
  have lk := lkD_kv' hL c.t
  unfold ceVoid
  cases e : lkt (docKV L) c.t with
  | none =>
    rw [e] at lk
    rw [← lk]
    have c1 := ownL_w L B ht who
    rw [ownLE_none who e, dAt_none e] at c1
    have key : CallOK Tryz.prog CevoidF [.ptr 0 0 0, .val (.int .u8 who), .agg (cmdS c A)] [] (ledH (docsF L) B) (crV (failC 4 B)) (ledH (docsF L) B ++ [((1, 0), stVL [])]) := callOK_run 400 [hC 1 4 c1] (by kernel_rfl) (by kernel_rfl)
    exact led_known (B' := (failC 4 B).b) key hL
  | some p =>
    rw [e] at lk
    rw [← lk]
    obtain ⟨hat, hpt⟩ := at_of hL e
    obtain ⟨t, tc, tr⟩ : ∃ t, c.t = t ∧ p.1.t = t := ⟨c.t, rfl, hpt⟩
    have c1 := ownL_w L B ht who
    rw [dAt_some e] at c1
    show CallOK _ _ _ _ _ (crV (bif c.t.c != who then failC 4 B else ceVoidD B c.t p.1)) (crP (bif c.t.c != who then failC 4 B else ceVoidD B c.t p.1))
    rcases Bool.eq_false_or_eq_true (c.t.c != who) with g1 | g1
    · rw [ownLE_not g1] at c1
      simp only [g1]
      have key : CallOK Tryz.prog CevoidF [.ptr 0 0 0, .val (.int .u8 who), .agg (cmdS c A)] [] (ledH (docsF L) B) (crV (failC 4 B)) (ledH (docsF L) B ++ [((1, 0), stVL [])]) := callOK_run 400 [hC 1 4 c1] (by kernel_rfl) (by kernel_rfl)
      exact led_known (B' := (failC 4 B).b) key hL
    rw [ownLE_ok e g1] at c1
    simp only [g1]
    show CallOK _ _ _ _ _ (crV (ceVoidD B c.t p.1)) (crP (ceVoidD B c.t p.1))
    have hvn : vN L c.t = p.1.vals.length := by unfold vN; rw [dAt_some e]
    have h4 := h.vals p.1 hat.d
    have c2 := each_cvoid L B ht (tid0B' p.1.frm) (by omega)
    rw [hvn] at c2
    unfold ceVoidD
    rcases Bool.eq_false_or_eq_true (cvoidN B.slips c.t (tid0B' p.1.frm) p.1.vals.length) with g2 | g2
    · simp only [g2] at c2 ⊢
      have c4 := madd_w p.1.back p.1.paid
      rcases Bool.eq_false_or_eq_true (decide ((addI p.1.back p.1.paid).2 = 0)) with g3 | g3
      · have g4 : (!decide ((addI p.1.back p.1.paid).2 = 0)) = false := by rw [g3]; rfl
        simp only [g3]
        have sr : SameRows (cvoidD p.1, p.2) p := ⟨rfl, rfl, rfl, rfl⟩
        have kt : (cvoidD p.1, p.2).1.t = c.t := hpt
        have c5 := upd_docsS L (cvoidD p.1, p.2) p hat.mem sr (by rw [kt]; exact ht) kn (by rw [kt, e]; rfl)
        rw [kt] at c5
        have hvn2 : vN (putDA L (cvoidD p.1, p.2)) c.t = p.1.vals.length := by rw [vN_put (p := (cvoidD p.1, p.2)) (q := p) kn hat.lk rfl rfl, hvn]
        have c6 := cturn_w (putDA L (cvoidD p.1, p.2)) (B.setD (cvoidD p.1)) h.key ht 5 (by omega)
        rw [hvn2] at c6
        have hmem : (cvoidD p.1, p.2) ∈ putDA L (cvoidD p.1, p.2) := List.mem_map.2 ⟨p, hat.mem, if_pos rfl⟩
        have hrd := docs_rd (M := []) (.inl hmem)
        have c7 := cprice_w (docsF (putDA L (cvoidD p.1, p.2))) (s := p.1.s) (A := ⟨p.2.la, p.2.lc, p.2.ta, p.2.tc⟩) (h.sal _ hat.d) hrd.1 hrd.2.1 (fun e => ((hsl p hat.mem).1.nil e).2) (fun e => ((hsl p hat.mem).2.1.nil e).2)
        rw [h.pr _ hat.d] at c7
        have bp := csum_bound (priceL p.1.s) 0 (by decide) (by decide)
        have w1 : IntKind.i64.wrap (0 - (sumFrom 0 (priceL p.1.s)).1) = -cpriceI p.1.s := by rw [wr_i64 (by omega)]; exact Int.zero_sub _
        have c8 := ctold_w (putDA L (cvoidD p.1, p.2)) ((B.setD (cvoidD p.1)).setS (cturnN B.slips c.t 5 p.1.vals.length)) ht (-cpriceI p.1.s) (by omega)
        rw [hvn2] at c8
        have hL2 : (putDA L (cvoidD p.1, p.2)).map (·.1) = putD B.docs (cvoidD p.1) := by rw [putDA_fst, hL]
        have key : CallOK Tryz.prog CevoidF [.ptr 0 0 0, .val (.int .u8 who), .agg (cmdS c A)] [] (ledH (docsF L) B) (crV (toldC ((B.setD (cvoidD p.1)).setS (cturnN B.slips c.t 5 p.1.vals.length)) c.t (-cpriceI p.1.s) p.1.vals.length)) (ledH (docsF (putDA L (cvoidD p.1, p.2))) ((B.setD (cvoidD p.1)).setS (cturnN B.slips c.t 5 p.1.vals.length)) ++ [((1, 0), stVn p.1.vals.length (toldN (cturnN B.slips c.t 5 p.1.vals.length) c.t p.1.vals.length))]) := callOK_run 400 [hC 1 4 c1, hC 5 4 c2, hC 8 4 c4, hB 9 1 _ _ g4, hG 11 7 c5, hC 12 3 c6, hC 13 2 c7, hI 14 4 IntKind.i64 _ _ w1, hC 14 5 c8] (by kernel_rfl) (by kernel_rfl)
        have key2 := led_known (B' := ((B.setD (cvoidD p.1)).setS (cturnN B.slips c.t 5 p.1.vals.length))) key hL2
        have hlen : stVn p.1.vals.length (toldN (cturnN B.slips c.t 5 p.1.vals.length) c.t p.1.vals.length) = stVL (toldN (cturnN B.slips c.t 5 p.1.vals.length) c.t p.1.vals.length) := by unfold stVL; rw [toldN_len]
        rw [hlen] at key2
        exact key2
      · have g4 : (!decide ((addI p.1.back p.1.paid).2 = 0)) = true := by rw [g3]; rfl
        simp only [g3]
        have key : CallOK Tryz.prog CevoidF [.ptr 0 0 0, .val (.int .u8 who), .agg (cmdS c A)] [] (ledH (docsF L) B) (crV (failC (addI p.1.back p.1.paid).2 B)) (ledH (docsF L) B ++ [((1, 0), stVL [])]) := callOK_run 400 [hC 1 4 c1, hC 5 4 c2, hC 8 4 c4, hB 9 1 _ _ g4] (by kernel_rfl) (by kernel_rfl)
        exact led_known (B' := (failC (addI p.1.back p.1.paid).2 B).b) key hL
    · simp only [g2] at c2 ⊢
      have key : CallOK Tryz.prog CevoidF [.ptr 0 0 0, .val (.int .u8 who), .agg (cmdS c A)] [] (ledH (docsF L) B) (crV (failC 6 B)) (ledH (docsF L) B ++ [((1, 0), stVL [])]) := callOK_run 400 [hC 1 4 c1, hC 5 4 c2] (by kernel_rfl) (by kernel_rfl)
      exact led_known (B' := (failC 6 B).b) key hL
end Go.Proofs.YtdnaegleifhmgaaGreat
end
section
namespace Go.Proofs.YtdnaegleifhmgaaGreat
open Go.RowKit Go.Lib Go.Tk Go.Shelf Go.Vc Go.Sx
def crefD (x : CGift) (d : DocV) : DocV := { d with back := (addI d.back x.g).1, kept := (addI d.kept x.k).1, left := 0 }
def crefE (x : CGift) (d : DocV) : Int := first2 x.e (first2 (addI d.back x.g).2 (addI d.kept x.k).2)
def cnone (x : CGift) (d : DocV) : Bool := decide (x.many = 0) && decide (d.left = 0)
def ceRefundD (B : LedV) (t : Tid) (d : DocV) (x : CGift) : CR :=
  bif cnone x d then failC 6 B
  else bif !decide (crefE x d = 0) then failC (crefE x d) B
  else toldC ((B.setD (crefD x d)).setS (cturnN B.slips t 6 d.vals.length)) t (-x.g) d.vals.length
def ceRefund (B : LedV) (who : Int) (t : Tid) : CR := match lkD B.docs t with
  | none => failC 4 B
  | some d => bif t.c != who then failC 4 B else ceRefundD B t d (cgiftV B.slips d d.vals.length)
def CerefundF : Nat := 55
theorem cerefund_L {L : List (DocV × DocA)} {B : LedV} (h : LedOk B) (hL : L.map (·.1) = B.docs) {c : CmdV} (A : SaleA) (ht : TidOk c.t) (who : Int) :
    CallOK Tryz.prog CerefundF [.ptr 0 0 0, .val (.int .u8 who), .agg (cmdS c A)] [] (ledH (docsF L) B) (crV (ceRefund B who c.t)) (crP (ceRefund B who c.t)) := by
  have kn := kv_nodup hL h.nodup
  have lk := lkD_kv' hL c.t
  unfold ceRefund
  cases e : lkt (docKV L) c.t with
  | none =>
    rw [e] at lk
    rw [← lk]
    have c1 := ownL_w L B ht who
    rw [ownLE_none who e, dAt_none e] at c1
    have key : CallOK Tryz.prog CerefundF [.ptr 0 0 0, .val (.int .u8 who), .agg (cmdS c A)] [] (ledH (docsF L) B) (crV (failC 4 B)) (ledH (docsF L) B ++ [((1, 0), stVL [])]) := callOK_run 400 [hC 1 4 c1] (by kernel_rfl) (by kernel_rfl)
    exact led_known (B' := (failC 4 B).b) key hL
  | some p =>
    rw [e] at lk
    rw [← lk]
    obtain ⟨hat, hpt⟩ := at_of hL e
    have c1 := ownL_w L B ht who
    rw [dAt_some e] at c1
    show CallOK _ _ _ _ _ (crV (bif c.t.c != who then failC 4 B else ceRefundD B c.t p.1 (cgiftV B.slips p.1 p.1.vals.length))) (crP (bif c.t.c != who then failC 4 B else ceRefundD B c.t p.1 (cgiftV B.slips p.1 p.1.vals.length)))
    rcases Bool.eq_false_or_eq_true (c.t.c != who) with g1 | g1
    · rw [ownLE_not g1] at c1
      simp only [g1]
      have key : CallOK Tryz.prog CerefundF [.ptr 0 0 0, .val (.int .u8 who), .agg (cmdS c A)] [] (ledH (docsF L) B) (crV (failC 4 B)) (ledH (docsF L) B ++ [((1, 0), stVL [])]) := callOK_run 400 [hC 1 4 c1] (by kernel_rfl) (by kernel_rfl)
      exact led_known (B' := (failC 4 B).b) key hL
    rw [ownLE_ok e g1] at c1
    simp only [g1]
    show CallOK _ _ _ _ _ (crV (ceRefundD B c.t p.1 (cgiftV B.slips p.1 p.1.vals.length))) (crP (ceRefundD B c.t p.1 (cgiftV B.slips p.1 p.1.vals.length)))
    have hvn : vN L c.t = p.1.vals.length := by unfold vN; rw [dAt_some e]
    have h4 := h.vals p.1 hat.d
    have c2 := cgifts_w L B h.v (d := p.1) p.2 (by rw [hpt]; exact ht) (h.sal _ hat.d).pen.2 (by rw [hpt]; omega)
    rw [hpt, hvn] at c2
    have bg : -1125899906842624 ≤ (cgiftV B.slips p.1 p.1.vals.length).g ∧ (cgiftV B.slips p.1 p.1.vals.length).g ≤ 1125899906842624 := csum_bound (cgiveL B.slips p.1 p.1.vals.length) 0 (by decide) (by decide)
    generalize cgiftV B.slips p.1 p.1.vals.length = x at *
    unfold ceRefundD
    have big : cnone x p.1 = false → CallOK Tryz.prog CerefundF [.ptr 0 0 0, .val (.int .u8 who), .agg (cmdS c A)] [] (ledH (docsF L) B) (crV (bif !decide (crefE x p.1 = 0) then failC (crefE x p.1) B else toldC ((B.setD (crefD x p.1)).setS (cturnN B.slips c.t 6 p.1.vals.length)) c.t (-x.g) p.1.vals.length)) (crP (bif !decide (crefE x p.1 = 0) then failC (crefE x p.1) B else toldC ((B.setD (crefD x p.1)).setS (cturnN B.slips c.t 6 p.1.vals.length)) c.t (-x.g) p.1.vals.length)) := fun hn => by
      have c4 := madd_w p.1.back x.g
      have c5 := madd_w p.1.kept x.k
      have c6 : CallOK Tryz.prog CorF [.raw 0 0] [((0, 0), cerrR [eN x.e, eN (addI p.1.back x.g).2, eN (addI p.1.kept x.k).2] 3)] [] (eN (crefE x p.1)) [] := cor3_w x.e (addI p.1.back x.g).2 (addI p.1.kept x.k).2
      have sr : SameRows (crefD x p.1, p.2) p := ⟨rfl, rfl, rfl, rfl⟩
      have kt : (crefD x p.1, p.2).1.t = c.t := hpt
      have c7 := upd_docsS L (crefD x p.1, p.2) p hat.mem sr (by rw [kt]; exact ht) kn (by rw [kt, e]; rfl)
      rw [kt] at c7
      have hvn2 : vN (putDA L (crefD x p.1, p.2)) c.t = p.1.vals.length := by rw [vN_put (p := (crefD x p.1, p.2)) (q := p) kn hat.lk rfl rfl, hvn]
      have c8 := cturn_w (putDA L (crefD x p.1, p.2)) (B.setD (crefD x p.1)) h.key ht 6 (by omega)
      rw [hvn2] at c8
      have w1 : IntKind.i64.wrap (0 - x.g) = -x.g := by rw [wr_i64 (by omega)]; exact Int.zero_sub _
      have c9 := ctold_w (putDA L (crefD x p.1, p.2)) ((B.setD (crefD x p.1)).setS (cturnN B.slips c.t 6 p.1.vals.length)) ht (-x.g) (by omega)
      rw [hvn2] at c9
      have hL2 : (putDA L (crefD x p.1, p.2)).map (·.1) = putD B.docs (crefD x p.1) := by rw [putDA_fst, hL]
      have hlen : stVn p.1.vals.length (toldN (cturnN B.slips c.t 6 p.1.vals.length) c.t p.1.vals.length) = stVL (toldN (cturnN B.slips c.t 6 p.1.vals.length) c.t p.1.vals.length) := by unfold stVL; rw [toldN_len]
      have run : ∀ E, crefE x p.1 = E → (decide (x.many = 0) = false ∨ decide (x.many = 0) = true ∧ decide (p.1.left = 0) = false) → CallOK Tryz.prog CerefundF [.ptr 0 0 0, .val (.int .u8 who), .agg (cmdS c A)] [] (ledH (docsF L) B) (crV (bif !decide (E = 0) then failC E B else toldC ((B.setD (crefD x p.1)).setS (cturnN B.slips c.t 6 p.1.vals.length)) c.t (-x.g) p.1.vals.length)) (crP (bif !decide (E = 0) then failC E B else toldC ((B.setD (crefD x p.1)).setS (cturnN B.slips c.t 6 p.1.vals.length)) c.t (-x.g) p.1.vals.length)) := fun E hE hm => by
        rw [hE] at c6
        rcases Bool.eq_false_or_eq_true (decide (E = 0)) with g3 | g3
        · have g4 : (!decide (E = 0)) = false := by rw [g3]; rfl
          simp only [g3]
          have key : CallOK Tryz.prog CerefundF [.ptr 0 0 0, .val (.int .u8 who), .agg (cmdS c A)] [] (ledH (docsF L) B) (crV (toldC ((B.setD (crefD x p.1)).setS (cturnN B.slips c.t 6 p.1.vals.length)) c.t (-x.g) p.1.vals.length)) (ledH (docsF (putDA L (crefD x p.1, p.2))) ((B.setD (crefD x p.1)).setS (cturnN B.slips c.t 6 p.1.vals.length)) ++ [((1, 0), stVn p.1.vals.length (toldN (cturnN B.slips c.t 6 p.1.vals.length) c.t p.1.vals.length))]) := by
            rcases hm with m1 | ⟨m1, m2⟩
            · exact callOK_run 400 [hC 1 4 c1, hC 4 2 c2, hB 5 1 _ _ m1, hC 8 3 c4, hC 9 3 c5, hC 10 4 c6, hB 11 1 _ _ g4, hG 14 7 c7, hC 15 3 c8, hI 16 4 IntKind.i64 _ _ w1, hC 16 5 c9] (by kernel_rfl) (by kernel_rfl)
            · exact callOK_run 400 [hC 1 4 c1, hC 4 2 c2, hB 5 1 _ _ m1, hB 5 5 _ _ m2, hC 8 3 c4, hC 9 3 c5, hC 10 4 c6, hB 11 1 _ _ g4, hG 14 7 c7, hC 15 3 c8, hI 16 4 IntKind.i64 _ _ w1, hC 16 5 c9] (by kernel_rfl) (by kernel_rfl)
          have key2 := led_known (B' := ((B.setD (crefD x p.1)).setS (cturnN B.slips c.t 6 p.1.vals.length))) key hL2
          rw [hlen] at key2
          exact key2
        · have g4 : (!decide (E = 0)) = true := by rw [g3]; rfl
          simp only [g3]
          have key : CallOK Tryz.prog CerefundF [.ptr 0 0 0, .val (.int .u8 who), .agg (cmdS c A)] [] (ledH (docsF L) B) (crV (failC E B)) (ledH (docsF L) B ++ [((1, 0), stVL [])]) := by
            rcases hm with m1 | ⟨m1, m2⟩
            · exact callOK_run 400 [hC 1 4 c1, hC 4 2 c2, hB 5 1 _ _ m1, hC 8 3 c4, hC 9 3 c5, hC 10 4 c6, hB 11 1 _ _ g4] (by kernel_rfl) (by kernel_rfl)
            · exact callOK_run 400 [hC 1 4 c1, hC 4 2 c2, hB 5 1 _ _ m1, hB 5 5 _ _ m2, hC 8 3 c4, hC 9 3 c5, hC 10 4 c6, hB 11 1 _ _ g4] (by kernel_rfl) (by kernel_rfl)
          exact led_known (B' := (failC E B).b) key hL
      refine run _ rfl ?_
      unfold cnone at hn
      cases m1 : decide (x.many = 0) with
      | false => exact .inl rfl
      | true => rw [m1] at hn; exact .inr ⟨rfl, hn⟩
    rcases Bool.eq_false_or_eq_true (cnone x p.1) with g2 | g2
    · simp only [g2]
      have g5 := g2
      unfold cnone at g5
      rw [Bool.and_eq_true] at g5
      obtain ⟨m1, m2⟩ := g5
      have key : CallOK Tryz.prog CerefundF [.ptr 0 0 0, .val (.int .u8 who), .agg (cmdS c A)] [] (ledH (docsF L) B) (crV (failC 6 B)) (ledH (docsF L) B ++ [((1, 0), stVL [])]) := callOK_run 400 [hC 1 4 c1, hC 4 2 c2, hB 5 1 _ _ m1, hB 5 5 _ _ m2] (by kernel_rfl) (by kernel_rfl)
      exact led_known (B' := (failC 6 B).b) key hL
    · have := big g2
      simp only [g2]
      exact this
end Go.Proofs.YtdnaegleifhmgaaGreat
end
