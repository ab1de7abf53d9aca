/- Ce20, Ce21. -/
import Derived.Test.YtdnaegleifhmgaaGreatCe18
set_option maxRecDepth 100000
set_option linter.unusedVariables false
set_option linter.unusedSimpArgs false
set_option linter.unusedSectionVars false
section
namespace Go.Proofs.YtdnaegleifhmgaaGreat
open Go.RowKit Go.Lib Go.Tk Go.Shelf Go.Vc Go.Sx
theorem vN_lk {L : List (DocV × DocA)} {ds : List DocV} (hL : L.map (·.1) = ds) {t : Tid} {d : DocV} (h : lkD ds t = some d) : vN L t = d.vals.length := by
  have e := lkD_kv t L
  rw [hL, h] at e
  cases g : lkt (docKV L) t with
  | none => rw [g] at e; cases e
  | some p =>
    rw [g] at e
    have e : p.1 = d := by simpa using e
    unfold vN
    rw [dAt_some g, e]
theorem ctoldX {B : LedV} {t : Tid} {d : DocV} (h : lkD B.docs t = some d) (ht : TidOk t) (amt : Int) (hn : d.vals.length ≤ 200) :
    CallOK Tryz.prog ToldLF [.ptr 0 0 0, .agg (tidS t), .val (.int .i64 amt)] [] (ledH (docsX B.docs) B) (.agg (repS 0 t amt (.raw 1 0))) (ledH (docsX B.docs) B ++ [((1, 0), stVL (toldN B.slips t d.vals.length))]) := by
  refine ledX (B := B) (B' := B) fun L hL => ?_
  have c := ctold_w L B ht amt (by rw [vN_lk hL h]; exact hn)
  rw [vN_lk hL h] at c
  have e : stVn d.vals.length (toldN B.slips t d.vals.length) = stVL (toldN B.slips t d.vals.length) := by unfold stVL; rw [toldN_len]
  rw [e] at c
  exact led_known (B' := B) c.of_rd hL
theorem lkD_none {ds : List DocV} {t : Tid} (h : t ∉ ds.map (·.t)) : lkD ds t = none := by
  cases e : lkD ds t with
  | none => rfl
  | some d => exact absurd (List.mem_map.2 ⟨d, (lkD_mem e).1, (lkD_mem e).2⟩) h
theorem lkD_last {ds : List DocV} {d : DocV} (h : d.t ∉ ds.map (·.t)) : lkD (ds ++ [d]) d.t = some d := by
  have e := lkD_none h
  unfold lkD at e ⊢
  rw [List.find?_append, e]
  simp
theorem docsE_X {L : List (DocV × DocA)} {d : DocV} {ds : List DocV} (hL : L.map (·.1) = ds) {b : Nat} {v : Value} {vs : List Value} {R : List Chunk} {w : World} (h : Mem (docsE L d b v vs :: R) w) : Mem (docsX (ds ++ [d]) b v :: R) w := by
  obtain ⟨a, -, h1⟩ := docsE_open h
  exact Mem.in_ex ⟨L ++ [(d, a)], by rw [List.map_append, hL]; rfl⟩ h1
theorem cesell_ok (F : CF) {L : List (DocV × DocA)} {B : LedV} (hb : LedG B) (hL : L.map (·.1) = B.docs) {who : Int} (hc : 0 ≤ who ∧ who ≤ 255) {c : CmdV} {A : SaleA} (ok : SaleOk c.s) (hl : ∀ b v, Rd (F b v) A.la (cellsL encLeg c.s.legs)) (ht : ∀ b v, Rd (F b v) A.ta (cellsL encTax c.s.taxes)) (h1 : SlOk A.la c.s.legs.length A.lc) (h2 : SlOk A.ta c.s.taxes.length A.tc) :
    CallOK Tryz.prog SellF [.ptr 0 0 0, .val (.int .u8 who), .agg (cmdS c A)] [((0, 9), .fam F)] (ledH (docsF L) B) (crV (ceSell B (cntC B.docs who) who c.s)) (crP (ceSell B (cntC B.docs who) who c.s)) := by
  have hk := hb.serials hL who
  unfold ceSell
  rcases Bool.eq_false_or_eq_true (decide (issLE (cntC B.docs who) B.n who c.s = 0)) with e | e
  rotate_left
  · have := cesell_no F hL hc hk ok hl ht h1 h2 (of_decide_eq_false e)
    rw [e]
    exact this
  rw [e]
  have hm := of_decide_eq_true e
  have i := iss_of hm
  have g := hb.issued hc ok i
  obtain ⟨vl, l1, l4⟩ := shareV_length ok i.chk
  have c1 := ceissue_ok F hb.ok hL hc hk ok hl ht h1 h2 hm
  have c2 := price_F F ok hl ht (fun e => (h1.nil e).2) (fun e => (h2.nil e).2)
  obtain ⟨-, -, -, hpr⟩ := check_shape i.chk
  rw [hpr] at c2
  have hd : lkD (issB B (nextC B who) c.s).docs (nextC B who) = some (docMade (nextC B who) c.s) := lkD_last (d := docMade (nextC B who) c.s) (hb.fresh who)
  have tk : TidOk (nextC B who) := g.ok.tid _ (lkD_mem hd).1
  have c3 := ctoldX hd tk (cpriceI c.s) (by show (shareV c.s.fare (wsOf c.s)).length ≤ 200; omega)
  refine callOK_intro (by kernel_rfl) fun eb R => ?_
  refine leaf_cut (rgK Tryz.prog SellF 4 []) [(0, .ptr 0 0 0), (5, .ptr 1 0 0), (6, .ptr 1 1 0), (8, .ptr 1 2 0)]
    ([((0, 9), .fam F), ((0, 0), .box none [.val (.int .i64 B.n), .map 0 1, .map 0 2]), ((0, 1), .famE [.raw 1 5, .raw 1 6, .raw 1 7] (docsE L (docMade (nextC B who) c.s))), ((0, 2), slipsF (issB B (nextC B who) c.s).slips), ((1, 0), .box none (cmdS c A)), ((1, 1), .box none (repS 0 tid0 0 nilS)), ((1, 2), .box none (docS (docMade (nextC B who) c.s) (.raw 1 5) (.raw 1 6) (.raw 1 7)))])
    calNone false 400 [hC 1 4 c1, .stop 4] calNone_ok (by kernel_rfl) ?_
  refine go_open (X := Unit) (fun _ => [((0, 1), .fam (docsX (issB B (nextC B who) c.s).docs)), ((0, 9), .fam F), ((0, 0), .box none [.val (.int .i64 B.n), .map 0 1, .map 0 2]), ((0, 2), slipsF (issB B (nextC B who) c.s).slips), ((1, 0), .box none (cmdS c A)), ((1, 1), .box none (repS 0 tid0 0 nilS)), ((1, 2), .box none (docS (docMade (nextC B who) c.s) (.raw 1 5) (.raw 1 6) (.raw 1 7)))])
    (fun ε w hM => ⟨(), docsE_X hL (hM.front 2 rfl)⟩) (fun _ => by kernel_rfl) fun _ => ?_
  exact leaf_end calNone false 400 [hC 4 2 c2, hC 5 4 c3] calNone_ok (by kernel_rfl)
end Go.Proofs.YtdnaegleifhmgaaGreat
end
section
namespace Go.Proofs.YtdnaegleifhmgaaGreat
open Go.RowKit Go.Lib Go.Tk Go.Shelf Go.Vc Go.Sx
theorem docsE_nm {L : List (DocV × DocA)} {d : DocV} {b : Nat} {v v1 v2 v3 : Value} {R : List Chunk} {w : World} (h : Mem (docsE L d b v [v1, v2, v3] :: R) w) :
    ∃ a : DocA, v1 = .slice a.la d.s.legs.length a.lc ∧ v2 = .slice a.ta d.s.taxes.length a.tc ∧ v3 = .slice a.va d.vals.length a.vc ∧ Mem (docsF (L ++ [(d, a)]) b v :: R) w := by
  obtain ⟨a, h1, h2⟩ := docsE_open h
  simp only [List.cons.injEq, and_true] at h1
  exact ⟨a, h1.1, h1.2.1, h1.2.2, h2⟩
def keptD (x : CGift) (d : DocV) : DocV := { d with kept := (addI d.kept x.k).1 }
def exH0 (F : CF) (B : LedV) (c : CmdV) (A : SaleA) (L : List (DocV × DocA)) (D d : DocV) (pa : DocA) (S : SlipsV) (v1 v2 v3 : SV) : Heap :=
  [((0, 9), .fam F), ((0, 0), .box none [.val (.int .i64 B.n), .map 0 1, .map 0 2]), ((0, 1), .famE [v1, v2, v3] (docsE L D)), ((0, 2), slipsF S), ((1, 0), .box none (cmdS c A)), ((1, 1), .box none (repS 0 tid0 0 nilS)), ((1, 2), .box none (docSA d pa)), ((1, 3), .box none (docS D v1 v2 v3))]
def exH1 (F : CF) (B : LedV) (c : CmdV) (A : SaleA) (K : CF) (D d : DocV) (pa a : DocA) (S : SlipsV) : Heap :=
  [((0, 1), .fam K), ((0, 9), .fam F), ((0, 0), .box none [.val (.int .i64 B.n), .map 0 1, .map 0 2]), ((0, 2), slipsF S), ((1, 0), .box none (cmdS c A)), ((1, 1), .box none (repS 0 tid0 0 nilS)), ((1, 2), .box none (docSA d pa)), ((1, 3), .box none (docSA D a))]
def exSl (g : Int) : Slots := [(0, .ptr 0 0 0), (5, .ptr 1 0 0), (6, .ptr 1 1 0), (8, .ptr 1 2 0), (10, .val (.int .i64 g)), (14, .ptr 1 3 0)]
theorem go_docsE {f : Nat} {ret : SV} {rp : Heap} {eb : Env} {R : List Chunk} {e : Ex} {K : List It} {F : CF} {B : LedV} {c : CmdV} {A : SaleA} {L : List (DocV × DocA)} {D d : DocV} {pa : DocA} {S : SlipsV} {g : Int}
    (h : ∀ a : DocA, Go Tryz.prog f ret rp eb R e K (exSl g) (exH1 F B c A (docsF (L ++ [(D, a)])) D d pa a S)) : Go Tryz.prog f ret rp eb R e K (exSl g) (exH0 F B c A L D d pa S (.raw 1 5) (.raw 1 6) (.raw 1 7)) := by
  refine go_fact (1, 5) D.s.legs.length (fun ε R w hM => ?_) fun la lc => ?_
  · obtain ⟨a, e1, -⟩ := docsE_nm (hM.front 2 rfl)
    exact ⟨a.la, a.lc, e1⟩
  refine go_as (exSl g) (exH0 F B c A L D d pa S (.val (.slice la D.s.legs.length lc)) (.raw 1 6) (.raw 1 7)) (by kernel_rfl) (by kernel_rfl) ?_
  refine go_fact (1, 6) D.s.taxes.length (fun ε R w hM => ?_) fun ta tc => ?_
  · obtain ⟨a, -, e1, -⟩ := docsE_nm (hM.front 2 rfl)
    exact ⟨a.ta, a.tc, e1⟩
  refine go_as (exSl g) (exH0 F B c A L D d pa S (.val (.slice la D.s.legs.length lc)) (.val (.slice ta D.s.taxes.length tc)) (.raw 1 7)) (by kernel_rfl) (by kernel_rfl) ?_
  refine go_fact (1, 7) D.vals.length (fun ε R w hM => ?_) fun va vc => ?_
  · obtain ⟨a, -, -, e1, -⟩ := docsE_nm (hM.front 2 rfl)
    exact ⟨a.va, a.vc, e1⟩
  refine go_as (exSl g) (exH0 F B c A L D d pa S (.val (.slice la D.s.legs.length lc)) (.val (.slice ta D.s.taxes.length tc)) (.val (.slice va D.vals.length vc))) (by kernel_rfl) (by kernel_rfl) ?_
  refine go_open (X := Unit) (fun _ => exH1 F B c A (docsF (L ++ [(D, ⟨la, lc, ta, tc, va, vc⟩)])) D d pa ⟨la, lc, ta, tc, va, vc⟩ S) (fun ε w hM => ?_) (fun _ => by kernel_rfl) fun _ => h _
  obtain ⟨a, e1, e2, e3, h2⟩ := docsE_nm (v1 := .slice la D.s.legs.length lc) (v2 := .slice ta D.s.taxes.length tc) (v3 := .slice va D.vals.length vc) (hM.front 2 rfl)
  have : a = ⟨la, lc, ta, tc, va, vc⟩ := by
    obtain ⟨q1, q2, q3, q4, q5, q6⟩ := a
    simp only [Value.slice.injEq, true_and] at e1 e2 e3
    rw [e1.1, e1.2, e2.1, e2.2, e3.1, e3.2]
  subst this
  exact ⟨(), h2⟩
theorem cexch_pre (F : CF) {L : List (DocV × DocA)} {B : LedV} (hb : LedG B) (hL : L.map (·.1) = B.docs) {who : Int} (hc : 0 ≤ who ∧ who ≤ 255) {c : CmdV} {A : SaleA} (htk : TidOk c.t) (ok : SaleOk c.s) (hl : ∀ b v, Rd (F b v) A.la (cellsL encLeg c.s.legs)) (hta : ∀ b v, Rd (F b v) A.ta (cellsL encTax c.s.taxes)) (h1 : SlOk A.la c.s.legs.length A.lc) (h2 : SlOk A.ta c.s.taxes.length A.tc)
    {p : DocV × DocA} (e : lkt (docKV L) c.t = some p) (g1 : (c.t.c != who) = false) {x : CGift} (hx : x = cgiftV B.slips p.1 p.1.vals.length) (hm : issLE (cntC B.docs who) B.n who c.s = 0) (hE : cexE x p.1 = 0) (hz : (!tid0B' p.1.dst) = false) (hm2 : decide (x.many = 0) = false ∨ decide (x.many = 0) = true ∧ decide (p.1.left = 0) = false) {ret : SV} {post : Heap}
    (h : ∀ eb R, Go Tryz.prog CexchF ret ([((0, 9), .fam F)] ++ post) eb R .nrm (rgK Tryz.prog CexchF 14 []) (exSl x.g) (exH0 F B c A L (docMade (nextC B who) c.s) (keptD x p.1) p.2 (issB B (nextC B who) c.s).slips (.raw 1 5) (.raw 1 6) (.raw 1 7))) :
    CallOK Tryz.prog CexchF [.ptr 0 0 0, .val (.int .u8 who), .agg (cmdS c A)] [((0, 9), .fam F)] (ledH (docsF L) B) ret post := by
  have hk := hb.serials hL who
  obtain ⟨hat, hpt⟩ := at_of hL e
  have c1 := ownL_w L B htk who
  rw [dAt_some e, ownLE_ok e g1] at c1
  have hvn : vN L c.t = p.1.vals.length := by unfold vN; rw [dAt_some e]
  have h4 := hb.ok.vals p.1 hat.d
  have c2 := cgifts_w L B hb.ok.v (d := p.1) p.2 (by rw [hpt]; exact htk) (hb.ok.sal _ hat.d).pen.2 (by rw [hpt]; omega)
  rw [hpt, hvn, ← hx] at c2
  clear hx
  have c4 := madd_w p.1.kept x.k
  have c5 : CallOK Tryz.prog CorF [.raw 0 0] [((0, 0), cerrR [eN x.e, eN (addI p.1.kept x.k).2] 2)] [] (eN (cexE x p.1)) [] := cor2_w x.e (addI p.1.kept x.k).2
  rw [hE] at c5
  have c6 := ceissue_ok F hb.ok hL hc hk ok hl hta h1 h2 hm
  refine callOK_intro (by kernel_rfl) fun eb R => ?_
  rcases hm2 with m1 | ⟨m1, m2⟩
  · exact leaf_cut (rgK Tryz.prog CexchF 14 []) (exSl x.g) (exH0 F B c A L (docMade (nextC B who) c.s) (keptD x p.1) p.2 (issB B (nextC B who) c.s).slips (.raw 1 5) (.raw 1 6) (.raw 1 7)) calNone false 400 [hC 1 4 c1, hC 4 2 c2, hB 5 1 _ _ m1, hB 5 11 _ _ hz, hC 8 3 c4, hC 9 3 c5, hC 11 4 c6, .stop 14] calNone_ok (by kernel_rfl) (h eb R)
  · exact leaf_cut (rgK Tryz.prog CexchF 14 []) (exSl x.g) (exH0 F B c A L (docMade (nextC B who) c.s) (keptD x p.1) p.2 (issB B (nextC B who) c.s).slips (.raw 1 5) (.raw 1 6) (.raw 1 7)) calNone false 400 [hC 1 4 c1, hC 4 2 c2, hB 5 1 _ _ m1, hB 5 5 _ _ m2, hB 5 11 _ _ hz, hC 8 3 c4, hC 9 3 c5, hC 11 4 c6, .stop 14] calNone_ok (by kernel_rfl) (h eb R)
theorem mem_putD {ds : List DocV} {d y : DocV} (h : y ∈ ds) (e : y.t = d.t) : d ∈ Go.Proofs.YtdnaegleifhmgaaGreat.putD ds d := List.mem_map.2 ⟨y, h, if_pos e⟩
set_option maxHeartbeats 400000 in
theorem cexch_ok (F : CF) {L : List (DocV × DocA)} {B : LedV} (hb : LedG B) (hL : L.map (·.1) = B.docs) {who : Int} (hc : 0 ≤ who ∧ who ≤ 255) {c : CmdV} {A : SaleA} (htk : TidOk c.t) (ok : SaleOk c.s) (hl : ∀ b v, Rd (F b v) A.la (cellsL encLeg c.s.legs)) (hta : ∀ b v, Rd (F b v) A.ta (cellsL encTax c.s.taxes)) (h1 : SlOk A.la c.s.legs.length A.lc) (h2 : SlOk A.ta c.s.taxes.length A.tc)
    {p : DocV × DocA} (e : lkt (docKV L) c.t = some p) (g1 : (c.t.c != who) = false) {x : CGift} (hx : x = cgiftV B.slips p.1 p.1.vals.length) (hm : issLE (cntC B.docs who) B.n who c.s = 0) (hE : cexE x p.1 = 0) (hz : (!tid0B' p.1.dst) = false) (hm2 : decide (x.many = 0) = false ∨ decide (x.many = 0) = true ∧ decide (p.1.left = 0) = false) :
    CallOK Tryz.prog CexchF [.ptr 0 0 0, .val (.int .u8 who), .agg (cmdS c A)] [((0, 9), .fam F)] (ledH (docsF L) B) (crV (toldC (cexB B p.1 x (nextC B who) c.s) (nextC B who) (cpriceI c.s - usedC c.s x) (shareV c.s.fare (wsOf c.s)).length)) (crP (toldC (cexB B p.1 x (nextC B who) c.s) (nextC B who) (cpriceI c.s - usedC c.s x) (shareV c.s.fare (wsOf c.s)).length)) := by
  obtain ⟨hat, hpt⟩ := at_of hL e
  obtain ⟨ck, ct, ci, cs, camt⟩ := c
  have hpt : p.1.t = ct := hpt
  subst hpt
  dsimp only at ok hl hta h1 h2 htk e g1 hm
  refine cexch_pre (c := ⟨ck, p.1.t, ci, cs, camt⟩) F hb hL hc htk ok hl hta h1 h2 e g1 hx hm hE hz hm2 fun eb R => ?_
  have i := iss_of hm
  have q1 := hb.issued hc ok i
  obtain ⟨vl, l1, l4⟩ := shareV_length ok i.chk
  obtain ⟨-, -, hsh, hpr⟩ := check_shape i.chk
  obtain ⟨-, -, -, -, f0, f1⟩ := shape_share ok hsh
  have bg : -1125899906842624 ≤ x.g ∧ x.g ≤ 1125899906842624 := by rw [hx]; exact csum_bound (cgiveL B.slips p.1 p.1.vals.length) 0 (by decide) (by decide)
  have bu : -1125899906842624 ≤ usedC cs x ∧ usedC cs x ≤ 1125899906842624 := by unfold usedC; split <;> omega
  have bp := csum_bound (priceL cs) 0 (by decide) (by decide)
  have hat1 : p.1 ∈ (issB B (nextC B who) cs).docs := List.mem_append_left _ hat.d
  have hne : nextC B who ≠ p.1.t := fun q => hb.fresh who (by rw [q]; exact List.mem_map.2 ⟨p.1, hat.d, rfl⟩)
  have q2 := q1.setD hat1 (d := cexD1 x p.1 (nextC B who)) ⟨rfl, rfl, rfl⟩
  have hD2 : docMade (nextC B who) cs ∈ ((issB B (nextC B who) cs).setD (cexD1 x p.1 (nextC B who))).docs := List.mem_map.2 ⟨docMade (nextC B who) cs, List.mem_append_right _ (List.mem_singleton.2 rfl), if_neg hne⟩
  have q3 := q2.setD hD2 (d := cexD2 x p.1 (nextC B who) cs) ⟨rfl, rfl, rfl⟩
  have tk : TidOk (nextC B who) := q2.ok.tid _ hD2
  have w0 : (if x.g < cs.fare then x.g else cs.fare) = usedC cs x := rfl
  have w1 : IntKind.i64.wrap (cs.fare - usedC cs x) = cs.fare - usedC cs x := wr_i64 (by omega)
  have w2 : IntKind.i64.wrap (x.g - usedC cs x) = x.g - usedC cs x := wr_i64 (by omega)
  have w3 : IntKind.i64.wrap ((sumFrom 0 (priceL cs)).1 - usedC cs x) = cpriceI cs - usedC cs x := wr_i64 (by omega)
  refine go_docsE fun a => ?_
  have hL1 : (L ++ [(docMade (nextC B who) cs, a)]).map (·.1) = (issB B (nextC B who) cs).docs := by rw [List.map_append, hL]; rfl
  have kn1 := kv_nodup hL1 q1.ok.nodup
  have hm1 : p ∈ L ++ [(docMade (nextC B who) cs, a)] := List.mem_append_left _ hat.mem
  have lk1 : lkt (docKV (L ++ [(docMade (nextC B who) cs, a)])) p.1.t = some p := lkt_of kn1 (List.mem_map.2 ⟨p, hm1, rfl⟩)
  have sr1 : SameRows (cexD1 x p.1 (nextC B who), p.2) p := ⟨rfl, rfl, rfl, rfl⟩
  have c7 := upd_docsS (L ++ [(docMade (nextC B who) cs, a)]) (cexD1 x p.1 (nextC B who), p.2) p hm1 sr1 (by show TidOk p.1.t; exact htk) kn1 (by show (lkt _ p.1.t).isSome = true; rw [lk1]; rfl)
  have kt1 : True := trivial
  have hL2 : (putDA (L ++ [(docMade (nextC B who) cs, a)]) (cexD1 x p.1 (nextC B who), p.2)).map (·.1) = ((issB B (nextC B who) cs).setD (cexD1 x p.1 (nextC B who))).docs := by rw [putDA_fst, hL1]; rfl
  have kn2 := kv_nodup hL2 q2.ok.nodup
  have hvn2 : vN (putDA (L ++ [(docMade (nextC B who) cs, a)]) (cexD1 x p.1 (nextC B who), p.2)) p.1.t = p.1.vals.length := by
    rw [vN_put (p := (cexD1 x p.1 (nextC B who), p.2)) (q := p) kn1 lk1 rfl rfl]
    unfold vN
    rw [dAt_some lk1]
  have h4 := hb.ok.vals p.1 hat.d
  have c8 := cturn_w (putDA (L ++ [(docMade (nextC B who) cs, a)]) (cexD1 x p.1 (nextC B who), p.2)) ((issB B (nextC B who) cs).setD (cexD1 x p.1 (nextC B who))) q1.ok.key htk 7 (by omega)
  rw [hvn2] at c8
  have hm3 : (docMade (nextC B who) cs, a) ∈ putDA (L ++ [(docMade (nextC B who) cs, a)]) (cexD1 x p.1 (nextC B who), p.2) := List.mem_map.2 ⟨(docMade (nextC B who) cs, a), List.mem_append_right _ (List.mem_singleton.2 rfl), if_neg hne⟩
  have lk3 : lkt (docKV (putDA (L ++ [(docMade (nextC B who) cs, a)]) (cexD1 x p.1 (nextC B who), p.2))) (nextC B who) = some (docMade (nextC B who) cs, a) := lkt_of kn2 (List.mem_map.2 ⟨(docMade (nextC B who) cs, a), hm3, rfl⟩)
  have sr2 : SameRows (cexD2 x p.1 (nextC B who) cs, a) (docMade (nextC B who) cs, a) := ⟨rfl, rfl, rfl, rfl⟩
  have c9 := upd_docsS (putDA (L ++ [(docMade (nextC B who) cs, a)]) (cexD1 x p.1 (nextC B who), p.2)) (cexD2 x p.1 (nextC B who) cs, a) (docMade (nextC B who) cs, a) hm3 sr2 (show TidOk (nextC B who) from tk) kn2 (by show (lkt _ (nextC B who)).isSome = true; rw [lk3]; rfl)
  have hL3 : (putDA (putDA (L ++ [(docMade (nextC B who) cs, a)]) (cexD1 x p.1 (nextC B who), p.2)) (cexD2 x p.1 (nextC B who) cs, a)).map (·.1) = (cexB B p.1 x (nextC B who) cs).docs := by rw [putDA_fst, hL2]; rfl
  have hnd : ((cexB B p.1 x (nextC B who) cs).docs.map (·.t)).Nodup := q3.ok.nodup
  have hin : cexD2 x p.1 (nextC B who) cs ∈ (cexB B p.1 x (nextC B who) cs).docs := mem_putD hD2 rfl
  have hd : lkD (cexB B p.1 x (nextC B who) cs).docs (nextC B who) = some (cexD2 x p.1 (nextC B who) cs) := by
    obtain ⟨d, hd⟩ := lkD_some (ds := (cexB B p.1 x (nextC B who) cs).docs) (t := nextC B who) (List.mem_map.2 ⟨_, hin, rfl⟩)
    rw [hd, nd_inj hnd (lkD_mem hd).1 hin (lkD_mem hd).2]
  have c10 := price_F F ok hl hta (fun e => (h1.nil e).2) (fun e => (h2.nil e).2)
  rw [hpr] at c10
  have c11 := ctoldX hd tk (cpriceI cs - usedC cs x) (by show (shareV cs.fare (wsOf cs)).length ≤ 200; omega)
  have hD1 : keptD x p.1 = keptD x p.1 := rfl
  refine leaf_cut (rgK Tryz.prog CexchF 15 []) (exSl x.g ++ [(15, .val (.int .i64 (usedC cs x)))]) (exH1 F B ⟨ck, p.1.t, ci, cs, camt⟩ A (docsF (L ++ [(docMade (nextC B who) cs, a)])) (docMade (nextC B who) cs) (keptD x p.1) p.2 a (issB B (nextC B who) cs).slips) calNone false 400 [hI 14 3 IntKind.i64 _ _ w0, hI 14 4 IntKind.i64 _ _ w0, .stop 15] calNone_ok (by kernel_rfl) ?_
  refine leaf_cut (rgK Tryz.prog CexchF 20 []) (exSl x.g ++ [(15, .val (.int .i64 (usedC cs x)))]) (exH1 F B ⟨ck, p.1.t, ci, cs, camt⟩ A (docsF (putDA (putDA (L ++ [(docMade (nextC B who) cs, a)]) (cexD1 x p.1 (nextC B who), p.2)) (cexD2 x p.1 (nextC B who) cs, a))) (cexD2 x p.1 (nextC B who) cs) (cexD1 x p.1 (nextC B who)) p.2 a (cexB B p.1 x (nextC B who) cs).slips) calNone false 400 [hG 16 7 c7, hC 17 3 c8, hI 18 6 IntKind.i64 _ _ w1, hI 18 9 IntKind.i64 _ _ w2, hG 19 7 c9, .stop 20] calNone_ok (by kernel_rfl) ?_
  refine go_open (X := Unit) (fun _ => exH1 F B ⟨ck, p.1.t, ci, cs, camt⟩ A (docsX (cexB B p.1 x (nextC B who) cs).docs) (cexD2 x p.1 (nextC B who) cs) (cexD1 x p.1 (nextC B who)) p.2 a (cexB B p.1 x (nextC B who) cs).slips)
    (fun ε w hM => ⟨(), Mem.in_ex ⟨_, hL3⟩ hM⟩) (fun _ => by kernel_rfl) fun _ => ?_
  exact leaf_end calNone false 400 [hC 20 2 c10, hI 21 5 IntKind.i64 _ _ w3, hC 21 6 c11] calNone_ok (by kernel_rfl)
end Go.Proofs.YtdnaegleifhmgaaGreat
end
