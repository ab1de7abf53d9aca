/- BALANCES, the walk 4: the law. -/
import Derived.Test.YtlekbdpdlalhbaaGreatM1d9db32
import Derived.Test.YtlekbdpdlalhbaaGreatM4bbaf73
namespace Go.Proofs.YtlekbdpdlalhbaaGreat
set_option maxRecDepth 100000
open Go.RowKit Go.Lib Go.Tk Go.Shelf Go.Vc Go.Sx
set_option linter.unusedVariables false
set_option linter.unusedSimpArgs false

theorem tid_docs {B : BookV} (h : BookOk B) {d : DocV} (hd : d ∈ B.docs) : TidOk d.t := by
  obtain ⟨j, hj, hjd⟩ := List.getElem_of_mem hd
  have e := h.docs j d (by rw [List.getElem?_eq_getElem hj, hjd])
  have hs := h.self
  have hn := h.n
  have hm := h.many
  rw [e]
  exact ⟨⟨by show 0 ≤ B.self; omega, by show B.self ≤ 255; omega⟩, by show 0 ≤ (j : Int) + 1; omega, by show (j : Int) + 1 ≤ _; omega⟩
theorem bal_doc (F : CF) {a b : Option Addr} {n cap m cap2 i : Nat} {eb : Env} {R : List Chunk} {J J2 : Act → World → Prop} {B : BookV} (eB : EB B) {k : Nat} {d : DocV} (hk : B.docs[k]? = some d)
    (hJ : ∀ ε a' w, Rel (ntOf Tryz.prog BalF17) 1 eb R ⟨balSl a n cap b m cap2 i ++ balDl B (k + 1), balH F B ++ [((1, 1), tidR (B.docs.map (·.t)))], 2⟩ ε a' w → J2 a' w) :
    Go Tryz.prog BalF17 (.val (.bool true)) ([((0, 9), .fam F)] ++ []) eb R .nrm (rgK Tryz.prog BalF17 19 [J, J2])
      (balSl a n cap b m cap2 i ++ balDl B k) (balH F B ++ [((1, 1), tidR (B.docs.map (·.t)))]) := by
  have hd := List.mem_of_getElem? hk
  have hlt : k < B.docs.length := by
    rcases Nat.lt_or_ge k B.docs.length with h | h
    · exact h
    · rw [List.getElem?_eq_none h] at hk; cases hk
  have ht := tid_nth (tids_get hk)
  have hkl : k < (B.docs.map (·.t)).length := by rw [List.length_map]; exact hlt
  have t0 := tid_docs eB.ex.bk hd
  have hf : lkD B.docs d.t = some d := lkD_mem_eq eB.nodup hd
  have hs := eB.ex.sm d hd
  have c1 := doc_ok t0 hf hs
  have q1 := load_eltG (P := Tryz.prog) (t := 25) (cs := tidS d.t) (n := (B.docs.map (·.t)).length) (p := 0) (j := 0) (b := k * 2) (E := 25) (size := 2) (u := .agg (tidS d.t)) (by kernel_rfl) ht
  have hv4 : d.vals.length ≤ 1000 := by
    have := (eB.ei.doc d hd).vals
    have h4 := coupL_len B d.t
    rw [← this, List.length_map]; omega
  by_cases h0 : d.dst = tid0
  · have g := eB.non hd h0
    have c2 := bal17_w (B := B) (d := d) t0 hv4 g.bal
    have e0 : (!(decide (d.dst.c = 0) && (decide (d.dst.r = 0) && true))) = false := by rw [h0]; rfl
    have fin := bal_sums F (a := a) (b := b) (n := n) (cap := cap) (m := m) (cap2 := cap2) (i := i) (eb := eb) (R := R) (J := J) eB hk g hJ
    clear hJ g
    exact leaf_cut (rgK Tryz.prog BalF17 27 [J, J2]) _ _ calNone false 400 [.opt 19 3 (.at_ 0 _ _ _ ⟨rfl, hkl⟩), hG 19 4 q1, hC 19 5 c1, hC 20 2 c2, hB 22 3 _ _ e0, .stop 27] calNone_ok (by kernel_rfl) fin
  · obtain ⟨x, hx, hfr, hcr, g⟩ := eB.lnk hd h0
    obtain ⟨hxm, hxt⟩ := lkD_mem hx
    have c2 := bal17_w (B := B) (d := d) t0 hv4 g.bal
    have t1 := tid_docs eB.ex.bk hxm
    rw [hxt] at t1
    have c3 := doc_ok t1 hx (eB.ex.sm x hxm)
    have e0 : (!(decide (d.dst.c = 0) && (decide (d.dst.r = 0) && true))) = true := by
      rcases Bool.eq_false_or_eq_true (tid0B d.dst) with e | e
      · exact absurd (tid0_eq e) h0
      · unfold tid0B at e; rw [e]; rfl
    have e1 : (!(decide (x.frm.c = d.t.c) && (decide (x.frm.r = d.t.r) && true))) = false := by rw [hfr]; simp
    have e2 : decide (x.credit < 0) = false := decide_eq_false (by omega)
    have fin := bal_sums F (a := a) (b := b) (n := n) (cap := cap) (m := m) (cap2 := cap2) (i := i) (eb := eb) (R := R) (J := J) eB hk g hJ
    clear hJ g
    exact leaf_cut (rgK Tryz.prog BalF17 27 [J, J2]) _ _ calNone false 400 [.opt 19 3 (.at_ 0 _ _ _ ⟨rfl, hkl⟩), hG 19 4 q1, hC 19 5 c1, hC 20 2 c2, hB 22 3 _ _ e0, hC 23 3 c3, hB 24 7 _ _ e1, hB 24 12 _ _ e2, .stop 27] calNone_ok (by kernel_rfl) fin
/-! ### acts, one behind the other -/
def goneB (B : BookV) (gone : List Kid) (i : Nat) : BookV := if i < gone.length then (hearQ B 0 (wantM (gone.getD i kid0))).b else B
def runE (acts : List Act17) (gone : List Kid) : Nat → BookV
  | 0 => bookNew 1 3
  | i + 1 => (doX (goneB (runE acts gone i) gone i) (acts.getD i act17Z)).b
theorem goneB_eb {B : BookV} (h : EB B) (gone : List Kid) (i : Nat) : EB (goneB B gone i) := by
  unfold goneB
  split
  · exact h.hear 0 _
  · exact h
theorem kidC_len (l : List Kid) : (cellsL kidC l).length = l.length * 3 := cellsL_len (enc := kidC) (size := 3) (fun _ => rfl) l
theorem encTaxL_len (l : List Tax) : (cellsL encTax l).length = l.length * 2 := cellsL_len (enc := encTax) (size := 2) (fun _ => rfl) l
theorem kid_nth {l : List Kid} {i : Nat} (h : i < l.length) : ∀ (ε : Env) (q : Nat) (v : SV), (kidS (l.getD i kid0))[q]? = some v → (cellsL kidC l)[i * 3 + q]? = some (v.den ε) :=
  cells_nth (enc := kidC) (encS := kidS) (fun _ _ => rfl) (fun _ => rfl) (getD_some h kid0)
/-- from the act on -/
theorem bal_act (F : CF) {a b : Option Addr} {cap m cap2 i : Nat} {acts : List Act17} (hRa : ∀ b v, Rd (F b v) a (cellsL act17C acts)) (hA : ∀ x ∈ acts, ActRd F x) (hl : acts.length ≤ 1073741824) (hi : i < acts.length) (hf : (acts.getD i act17Z).s.fare < 1099511627776)
    {eb : Env} {R : List Chunk} {J : Act → World → Prop} {B : BookV} (eB : EB B)
    (hJ : ∀ ε a' w, Rel (ntOf Tryz.prog BalF17) 1 eb R ⟨balSl a acts.length cap b m cap2 (i + 1), balH F (doX B (acts.getD i act17Z)).b, 2⟩ ε a' w → J a' w) :
    Go Tryz.prog BalF17 (.val (.bool true)) ([((0, 9), .fam F)] ++ []) eb R .nrm (rgK Tryz.prog BalF17 13 [J]) (balSl a acts.length cap b m cap2 i) (balH F B) := by
  have hin : acts.getD i act17Z ∈ acts := List.mem_of_getElem? (getD_some hi act17Z)
  have ha := hA _ hin
  have q1 := idx_openG (P := Tryz.prog) (t := AT17) (e := 100) (size := 8) (j := 9) (k := .i64) (cap := cap) (n := acts.length) Tryz.underlying97 (by kernel_rfl) (acts17_len acts) hRa hi
  have hpos : 0 < (cellsL act17C acts).length := by rw [acts17_len]; omega
  have nth := act17_nth hi
  have q2 := load_openG0 (P := Tryz.prog) (t := 100) (k := i * 8) (j := 9) (u := .agg (act17X (acts.getD i act17Z) (acts.getD i act17Z).d)) (by kernel_rfl) hRa nth hpos
  have c1 := do17_w F eB.ex ha
  have eB' := doX_eb eB ha.ok hf
  generalize acts.getD i act17Z = x at *
  have c2 := tickets_c eB'.ex.bk
  generalize eC : (doX B x).b = C at *
  have c1' : CallOK Tryz.prog Do17F [.ptr 0 0 0, .agg (act17X x x.d)] [((0, 9), .fam F)] (bkC B) (xrV (doX B x)) (bkC C ++ [((1, 0), stC (doX B x).st)]) := by rw [← eC]; exact c1
  clear c1
  have hmany := eB'.ex.bk.many
  refine go_loop (X := { k : Nat // k ≤ C.docs.length }) 1 [J] (fun x => (balSl a acts.length cap b m cap2 i ++ balDl C x.1, balH F C ++ [((1, 1), tidR (C.docs.map (·.t)))])) (fun x => C.docs.length - x.1) ⟨0, Nat.zero_le _⟩ calNone false 400 [hG 13 3 q1, hG 13 4 q2, hC 13 5 c1', hC 14 1 c2] calNone_ok (by kernel_rfl) ?_
  rintro ⟨k, hk⟩ J2 hJ2
  have hlen : (C.docs.map (·.t)).length = C.docs.length := List.length_map _
  by_cases h : k < C.docs.length
  · have z0 : decide ((k : Int) < ((C.docs.map (·.t)).length : Int)) = true := decide_eq_true (by omega)
    have fin := bal_doc F (a := a) (b := b) (n := acts.length) (cap := cap) (m := m) (cap2 := cap2) (i := i) (eb := eb) (R := R) (J := J) (J2 := J2) eB' (List.getElem?_eq_getElem h) (hJ2 ⟨k + 1, h⟩ (by show _ - (k + 1) < _ - k; omega))
    exact leaf_cut (rgK Tryz.prog BalF17 19 [J, J2]) _ _ calNone false 400 [hB 17 3 _ _ z0, .stop 19] calNone_ok (by kernel_rfl) fin
  · have he : k = C.docs.length := by omega
    subst he
    have z0 : decide ((C.docs.length : Int) < ((C.docs.map (·.t)).length : Int)) = false := decide_eq_false (by omega)
    have z1 : (!decide (sumK paidB C.docs C.docs.length = sumK (restB C) C.docs C.docs.length)) = false := by rw [sumK_all, sumK_all, eB'.total]; simp
    have z2 : IntKind.i64.wrap ((i : Int) + 1) = ((i + 1 : Nat) : Int) := by rw [wr_i64 (by omega)]; omega
    exact leaf_round (lpK Tryz.prog BalF17 0 []) false 400 [hB 17 3 _ _ z0, hB 37 2 _ _ z1, hI 8 1 IntKind.i64 _ _ z2] hJ (by kernel_rfl)
theorem bal17_law (F : CF) {a b : Option Addr} {cap cap2 : Nat} {acts : List Act17} {gone : List Kid} (hRa : ∀ b v, Rd (F b v) a (cellsL act17C acts)) (hRb : ∀ b' v, Rd (F b' v) b (cellsL kidC gone)) (hk : ∀ x ∈ gone, KidOk x) (hl : acts.length ≤ 9223372036854775807) (hl2 : gone.length ≤ 9223372036854775807)
    (hf : ∀ x ∈ acts, x.s.legs.length ≤ 9223372036854775807 ∧ x.s.taxes.length ≤ 9223372036854775807 ∧ x.s.name.size ≤ 9223372036854775807) (hA : greatM acts = false → ∀ x ∈ acts, ActRd F x) :
    CallOK Tryz.prog BalF17 [.val (.slice a acts.length cap), .val (.slice b gone.length cap2)] [((0, 9), .fam F)] [] (.val (.bool true)) [] := by
  have c0 := great17_w F (cap := cap) hRa hl hf
  have c9 := wakes17_w
  rcases Bool.eq_false_or_eq_true (greatM acts) with g | g
  · rw [g] at c0
    exact callOK_run 400 [hC 1 1 c0, hC 2 0 c9] (by kernel_rfl) (by kernel_rfl)
  rw [g] at c0
  have hA := hA g
  have hlen := (greatM_no g).1
  have hl30 : acts.length ≤ 1073741824 := by omega
  rcases Bool.eq_false_or_eq_true (decide ((100 : Int) < (gone.length : Int))) with g2 | g2
  · exact callOK_run 400 [hC 1 1 c0, hB 1 5 _ _ g2, hC 2 0 c9] (by kernel_rfl) (by kernel_rfl)
  have c1 := new_okC (self := 1) (n := 3) (by decide) (by decide)
  refine callOK_intro (by kernel_rfl) fun eb R => ?_
  refine go_loop (X := { i : Nat // i ≤ acts.length ∧ EB (runE acts gone i) }) 0 [] (fun x => (balSl a acts.length cap b gone.length cap2 x.1, balH F (runE acts gone x.1))) (fun x => acts.length - x.1) ⟨0, Nat.zero_le _, new_eb 1 3 (by decide)⟩ calNone false 400 [hC 1 1 c0, hB 1 5 _ _ g2, hC 3 0 c1] calNone_ok (by kernel_rfl) ?_
  rintro ⟨i, hi, eB⟩ J hJ
  by_cases h : i < acts.length
  · have z0 : decide ((i : Int) < (acts.length : Int)) = true := decide_eq_true (by omega)
    have q1 := idx_openG (P := Tryz.prog) (t := AT17) (e := 100) (size := 8) (j := 9) (k := .i64) (cap := cap) (n := acts.length) Tryz.underlying97 (by kernel_rfl) (acts17_len acts) hRa h
    have hpos : 0 < (cellsL act17C acts).length := by rw [acts17_len]; omega
    have nth := act17_nth h
    have q2 := load_openG2 (P := Tryz.prog) (t := 2) (k := i * 8) (j := 9) (u := .val (.int .i64 (acts.getD i act17Z).s.fare)) 3 2 (by kernel_rfl) hRa nth hpos
    rcases Bool.eq_false_or_eq_true (decide ((1099511627776 : Int) ≤ (acts.getD i act17Z).s.fare)) with e | e
    · exact leaf_end calNone false 400 [hB 7 3 _ _ z0, hG 9 2 q1, hG 9 5 q2, hB 9 6 _ _ e, hC 10 0 c9] calNone_ok (by kernel_rfl)
    have hfare : (acts.getD i act17Z).s.fare < 1099511627776 := by have := of_decide_eq_false e; omega
    have hin : acts.getD i act17Z ∈ acts := List.mem_of_getElem? (getD_some h act17Z)
    have eB' := doX_eb (goneB_eb eB gone i) (hA _ hin).ok hfare
    have fin := bal_act F (a := a) (b := b) (cap := cap) (m := gone.length) (cap2 := cap2) (eb := eb) (R := R) (J := J) hRa hA hl30 h hfare (goneB_eb eB gone i) (hJ ⟨i + 1, h, eB'⟩ (by show _ - (i + 1) < _ - i; omega))
    clear hJ
    by_cases hg : i < gone.length
    · have eg : goneB (runE acts gone i) gone i = (hearQ (runE acts gone i) 0 (wantM (gone.getD i kid0))).b := by unfold goneB; rw [if_pos hg]
      rw [eg] at fin
      have z1 : decide ((i : Int) < (gone.length : Int)) = true := decide_eq_true (by omega)
      have hkin : gone.getD i kid0 ∈ gone := List.mem_of_getElem? (getD_some hg kid0)
      have q3 := idx_openG (P := Tryz.prog) (t := 78) (e := 27) (size := 3) (j := 9) (k := .i64) (cap := cap2) (n := gone.length) Tryz.underlying78 (by kernel_rfl) (kidC_len gone) hRb hg
      have q4 := load_openG0 (P := Tryz.prog) (t := 27) (k := i * 3) (j := 9) (u := .agg (kidS (gone.getD i kid0))) (by kernel_rfl) hRb (kid_nth hg) (by rw [kidC_len]; omega)
      have c2 := hear_c (runE acts gone i) (c := 0) (by decide) (wantM (gone.getD i kid0)) ⟨by show (0 : Int) ≤ 1; decide, by show (1 : Int) ≤ 255; decide⟩ (hk _ hkin)
      generalize acts.getD i act17Z = x at *
      exact leaf_cut (rgK Tryz.prog BalF17 13 [J]) _ _ calNone false 400 [hB 7 3 _ _ z0, hG 9 2 q1, hG 9 5 q2, hB 9 6 _ _ e, hB 11 3 _ _ z1, hG 12 3 q3, hG 12 4 q4, hC 12 6 c2, .stop 13] calNone_ok (by kernel_rfl) fin
    · have eg : goneB (runE acts gone i) gone i = runE acts gone i := by unfold goneB; rw [if_neg hg]
      rw [eg] at fin
      have z1 : decide ((i : Int) < (gone.length : Int)) = false := decide_eq_false (by omega)
      exact leaf_cut (rgK Tryz.prog BalF17 13 [J]) _ _ calNone false 400 [hB 7 3 _ _ z0, hG 9 2 q1, hG 9 5 q2, hB 9 6 _ _ e, hB 11 3 _ _ z1, .stop 13] calNone_ok (by kernel_rfl) fin
  · have z0 : decide ((i : Int) < (acts.length : Int)) = false := decide_eq_false (by omega)
    exact leaf_end calNone false 400 [hB 7 3 _ _ z0, hC 39 0 c9] calNone_ok (by kernel_rfl)
/-! ### from what comes in -/
theorem slOk_row {w : World} {a : Option Addr} {xs : List Value} {n c : Nat} (hr : Row w a xs) (hx : a = none → xs.length = 0 → n = 0) (hn : a = none → c = 0) : SlOk a n c := ⟨fun e => ⟨hx e (by
  subst e
  cases hl : xs.length with
  | zero => rfl
  | succ k =>
    obtain ⟨b, off, h, -⟩ := hr 0 (by omega)
    cases h), hn e⟩⟩
theorem actRd_of {w : World} {x : Act17} (h : Act17In w x) (h1 : x.s.legs.length ≤ 1000) (h2 : x.s.taxes.length ≤ 1000) : ActRd (fun _ _ => oldC w) x where
  ok := h.ok.small h1 h2
  t := h.t
  hl := fun _ _ => rd_old h.at_.legs
  ht := fun _ _ => rd_old h.at_.taxes
  h1 := slOk_row h.at_.legs (fun _ e => by rw [cellsL_len encLeg_len] at e; omega) h.at_.lnil
  h2 := slOk_row h.at_.taxes (fun _ e => by rw [encTaxL_len] at e; omega) h.at_.tnil
theorem maxLen_le {n : Nat} (h : n ≤ maxLen) : n ≤ 9223372036854775807 := by unfold maxLen at h; omega
theorem balances_any (a : Option Addr) (l : List Act17) (c : Nat) (b : Option Addr) (g : List Kid) (c2 : Nat) (w : World) (hr : Row w a (cellsL act17C l)) (hn : a = none → c = 0) (hl : l.length ≤ maxLen) (ok : ∀ x ∈ l, Act17In w x)
    (hr2 : Row w b (cellsL kidC g)) (hn2 : b = none → c2 = 0) (hl2 : g.length ≤ maxLen) (ok2 : ∀ x ∈ g, KidOk x) :
    Calls Tryz.prog BalF17 #[.slice a l.length c, .slice b g.length c2] w fun e w' => e = .returned (.bool true) ∧ Below w.heap.size w w' :=
  (bal17_law (fun _ _ => oldC w) (cap := c) (cap2 := c2) (fun _ _ => rd_old hr) (fun _ _ => rd_old hr2) ok2 (maxLen_le hl) (maxLen_le hl2) (fun x hx => ⟨maxLen_le (ok x hx).ok.nl, maxLen_le (ok x hx).ok.nt, maxLen_le (ok x hx).ok.name⟩)
    (fun hg x hx => actRd_of (ok x hx) (by have := ((greatM_no hg).2 x hx).1; omega) (by have := ((greatM_no hg).2 x hx).2; omega)) (fun _ _ => (0, undef)) [] w (Mem.old w)).mono fun e w' ⟨x, h, hm⟩ => ⟨h, (show Mem (oldC w :: []) w' from hm).below 0 rfl⟩
end Go.Proofs.YtlekbdpdlalhbaaGreat
