/- Post2, Post3, Post4. -/
import Derived.Test.YtifapcpcemigdaaGreatM6bd0a0d
import Derived.BigQuiet
import Derived.Deep.QuietTactic
import Derived.Deep.RegionHeld3
set_option maxRecDepth 100000
set_option linter.unusedVariables false
set_option linter.unusedSimpArgs false
set_option linter.unusedSectionVars false
section
namespace Go.Proofs.YtifapcpcemigdaaGreat
open Go.RowKit Go.Lib Go.Tk Go.Shelf
attribute [-go_sem] loadCellsFrom
theorem row_drop {w : World} {g off : Nat} {vs : List Value} (h : Row w (some ⟨g, off, none⟩) vs) (j : Nat) : Row w (some (Addr.add ⟨g, off, none⟩ j)) (vs.drop j) := by
  intro i hi
  rw [List.length_drop] at hi
  obtain ⟨b, o, hb, hc⟩ := h (j + i) (by omega)
  cases hb
  refine ⟨g, off + j, ?_, ?_⟩
  · unfold Addr.add
    split
    · rename_i e; subst e; rfl
    · rfl
  · rw [show off + j + i = off + (j + i) by omega, hc]
    simp [List.getD_eq_getElem?_getD]
theorem cellsL_drop {α : Type} {enc : α → List Value} {size : Nat} (hk : ∀ x, (enc x).length = size) : ∀ (l : List α) (j : Nat), (cellsL enc l).drop (j * size) = cellsL enc (l.drop j)
  | l, 0 => by simp
  | [], j + 1 => by simp [cellsL]
  | x :: l, j + 1 => by
    have e : cellsL enc (x :: l) = enc x ++ cellsL enc l := by simp [cellsL]
    rw [e, List.drop_append, hk x, List.drop_eq_nil_of_le (by rw [hk x, Nat.add_mul]; omega), List.nil_append, show (j + 1) * size - size = j * size by rw [Nat.add_mul, Nat.one_mul]; omega, cellsL_drop hk l j]
    rfl
set_option maxRecDepth 100000 in
set_option maxHeartbeats 4000000 in
theorem ack1_any (base b cb : Nat) (v : Value) (X : BoxV) (k : Int) (w : World) (h : BoxIn w base b v X) (ok : BoxOk X) (hc : Box w cb #[.int .u64 k]) (k0 : 0 ≤ k) (k1 : k ≤ 18446744073709551615) :
    Calls Tryz.prog 60 #[.pointer (some ⟨b, 0, none⟩), .pointer (some ⟨cb, 0, none⟩)] w (BoxDid w base b v (ackX X k)) := by
  obtain ⟨va, vc, hv, hrow, hn, -⟩ := own_slice h.row
  have hcap : X.wait.length ≤ vc := by
    obtain ⟨-, h | ⟨g, cap, cur, h, -, -, h2, -⟩⟩ := h.row
    · omega
    · rw [hv] at h; cases h; exact h2
  have c0 : w.cell? ⟨b, 0, none⟩ = some v := h.cells.cell 0 rfl
  have c1 : w.cell? ⟨b, 1, none⟩ = some (.int .u64 X.given) := h.cells.cell 1 rfl
  have f0 := h.cells.free 0
  have ck : w.cell? ⟨cb, 0, none⟩ = some (.int .u64 k) := hc.cell 0 rfl
  have lb := h.cells.lt
  have lc := hc.lt
  subst hv
  have HB := hid h
  have HC := hid hc
  have l0 := ok.len
  have l1 := ok.le
  have l2 := ok.hi
  have hw1 : IntKind.u64.wrap (X.wait.length : Int) = X.wait.length := by rw [IntKind.wrap_u64]; omega
  have hw2 : IntKind.u64.wrap (X.given - X.wait.length) = doneX X := by rw [IntKind.wrap_u64]; unfold doneX; omega
  have d0 : 0 ≤ doneX X := by unfold doneX; omega
  have d1 : doneX X + X.wait.length = X.given := by unfold doneX; omega
  generalize hd : doneX X = d at *
  clear h hc ok
  by_cases ha : X.given < k
  · have HX := hid (show ackX X k = (1, X) by unfold ackX; rw [if_pos ha])
    go_enter Tryz.func60, Tryz.ntmps60
    go_upto_region 1 with fail
    go_quiet (fail)
    go_upto_region 2 with fail
    go_quiet (fail)
    go_wp2
    go_ret
    rw [HX.out]
    first
      | exact ⟨rfl, _, HB.out.kept (bt (drewN_below _ _) (drewN_below _ _)), .inl rfl, fr_below _ (bt (drewN_below _ _) (drewN_below _ _))⟩
      | exact ⟨rfl, _, HB.out.kept (drewN_below _ _), .inl rfl, fr_below _ (drewN_below _ _)⟩
  by_cases hb : k ≤ d
  · have HX := hid (show ackX X k = (6, X) by unfold ackX; rw [if_neg ha, if_pos (by rw [hd]; exact hb)])
    go_enter Tryz.func60, Tryz.ntmps60
    go_upto_region 1 with fail
    go_quiet (fail)
    go_upto_region 2 with fail
    go_quiet (fail)
    go_wp2
    go_ret
    rw [HX.out]
    first
      | exact ⟨rfl, _, HB.out.kept (bt (drewN_below _ _) (drewN_below _ _)), .inl rfl, fr_below _ (bt (drewN_below _ _) (drewN_below _ _))⟩
      | exact ⟨rfl, _, HB.out.kept (drewN_below _ _), .inl rfl, fr_below _ (drewN_below _ _)⟩
  have HX := hid (show ackX X k = (0, ⟨X.wait.drop (k - d).toNat, X.given, X.last⟩) by unfold ackX; rw [if_neg ha, if_neg (by rw [hd]; exact hb), hd])
  go_enter Tryz.func60, Tryz.ntmps60
  go_upto_region 1 with fail
  go_quiet (fail)
  go_upto_region 2 with fail
  go_quiet (fail)
  obtain ⟨j, hj⟩ : ∃ j : Nat, k = d + j := ⟨(k - d).toNat, by omega⟩
  subst hj
  have hw3 : IntKind.u64.wrap (d + j - d) = j := by rw [IntKind.wrap_u64]; omega
  have j0 : 0 < j := by omega
  have j1 : j ≤ X.wait.length := by omega
  go_upto_region 6 with fail
  have hva : ∃ g og, va = some ⟨g, og, none⟩ := by
    obtain ⟨b', o', hb', -⟩ := hrow 0 (by rw [cellsL_len encMsg_len]; omega)
    exact ⟨b', o', hb'⟩
  have HR := hid (show Row w (if vc = j then va else Option.map (fun x : Addr => x.add (j * 12)) va) (cellsL encMsg (X.wait.drop j)) by
    obtain ⟨g, og, rfl⟩ := hva
    by_cases hvj : vc = j
    · have : X.wait.drop j = [] := List.drop_eq_nil_of_le (by omega)
      rw [this]; exact Row.nil
    · rw [if_neg hvj, ← cellsL_drop encMsg_len]; exact row_drop hrow _)
  have HN := hid (show (if vc = j then va else Option.map (fun x : Addr => x.add (j * 12)) va) = none → vc - j = 0 by
    obtain ⟨g, og, rfl⟩ := hva
    intro e
    by_cases hvj : vc = j
    · omega
    · rw [if_neg hvj] at e; cases e)
  clear hva
  obtain ⟨A, hA⟩ : ∃ A, (if vc = j then va else Option.map (fun x : Addr => x.add (j * 12)) va) = A := ⟨_, rfl⟩
  rw [hA] at HR HN
  clear hrow
  go_region_with (go_at_call 61; with_reducible (refine (cloneMsg_any (X.wait.drop j) _ _ _ _ (by simp) HN.out (HR.out.kept (drewN_below _ _)) (by omega)).mono ?_); rintro e w5 ⟨v', rfl, ho5, hb5⟩; obtain ⟨a5, c5, rfl, -, -, -⟩ := own_slice ho5; have B5 := bt (drewN_below w _) hb5; have x5 := HB.out.cells.kept B5; have f5 := x5.free 0; have k5 : w5.cell? ⟨b, 0, none⟩ = some (.slice va X.wait.length vc) := x5.cell 0 rfl)
  all_goals
    have ob : w5.ownsRow w.heap.size 48 12 (.slice a5 (X.wait.length - j) c5) (X.wait.length - j) (cellsL encMsg (X.wait.drop j)) := ho5
    have gg : ∀ g, (Value.slice a5 (X.wait.length - j) c5).ownBlock = some g → w.heap.size ≤ g := fun g e => (ob.lt g e).1
    have nb : (Value.slice a5 (X.wait.length - j) c5).ownBlock ≠ some b := fun e => by have := gg _ e; omega
    have D5 := hid (show BoxIn (w5.setCell ⟨b, 0, none⟩ (.slice a5 (X.wait.length - j) c5)) base b (.slice a5 (X.wait.length - j) c5) (ackX X (d + j)).2 ∧ Fr (boxFoot b (.slice va X.wait.length vc)) w (w5.setCell ⟨b, 0, none⟩ (.slice a5 (X.wait.length - j) c5)) by
      rw [HX.out]
      refine ⟨⟨x5.set 0 _, ?_, fun g e h => nb (by rw [e, h]), HB.out.lo⟩, (fr_below _ B5).set b 0 _ (Or.inl rfl)⟩
      rw [show (d + (j : Int) - d).toNat = j by omega, List.length_drop]
      exact (ownsRow_base ob (Nat.le_trans HB.out.lo (Nat.le_of_lt lb))).kept (grownBy_setCell' _ _ _ _) (.inr nb))
    have GG := hid gg
    clear gg nb ob ho5 B5 x5 f5 k5 hb5
    go_wp2
    go_ret
    exact ⟨by rw [HX.out]; rfl, _, D5.out.1, .inr GG.out, D5.out.2⟩
end Go.Proofs.YtifapcpcemigdaaGreat
end
section
namespace Go.Proofs.YtifapcpcemigdaaGreat
open Go.RowKit Go.Lib Go.Tk Go.Shelf Go.Maps
attribute [-go_sem] loadCellsFrom
def u8K : KeyKind Tryz.prog 5 Int where
  kv := .int .u8
  ok x := (Lit.int .u8 x).wf = true
  inj := fun h => by cases h; rfl
  keyed := int_keyed Tryz.underlying5
  reads := fun h => ⟨_, keyOf_int_mk Tryz.underlying5 h⟩
structure PostA where
  pb : Nat
  mb : Nat
  bx : Nat → Nat
  vs : Nat → Value
def boxList (A : PostA) (P : PostV) : List (Int × Value) := P.cs.map fun (c : Nat) => ((c : Int), .pointer (some ⟨A.bx c, 0, none⟩))
structure PostIn (w : World) (base : Nat) (A : PostA) (P : PostV) : Prop where
  head : Box w A.pb #[.int .u8 P.self, .int .i64 P.n, .map (some A.mb)]
  map : MapAt u8K w A.mb (boxList A P)
  box : ∀ c : Nat, P.other c = true → BoxIn w base (A.bx c) (A.vs c) (P.box c)
  lo1 : base ≤ A.pb
  lo2 : base ≤ A.mb
  d1 : A.pb ≠ A.mb
  d2 : ∀ c : Nat, P.other c = true → ∀ k, boxFoot (A.bx c) (A.vs c) k → k ≠ A.pb ∧ k ≠ A.mb
  d3 : ∀ c d : Nat, P.other c = true → P.other d = true → c ≠ d → ∀ k, boxFoot (A.bx c) (A.vs c) k → ¬ boxFoot (A.bx d) (A.vs d) k
def postFoot (A : PostA) (P : PostV) : Nat → Prop := fun k => k = A.pb ∨ k = A.mb ∨ ∃ c : Nat, P.other c = true ∧ boxFoot (A.bx c) (A.vs c) k
theorem PostIn.fr {S : Nat → Prop} {w w' : World} {base : Nat} {A : PostA} {P : PostV} (h : PostIn w base A P) (f : Fr S w w') (hn : ∀ k, postFoot A P k → ¬ S k) : PostIn w' base A P :=
  ⟨h.head.fr f (hn _ (.inl rfl)), h.map.fr f (hn _ (.inr (.inl rfl))), fun c hc => (h.box c hc).fr f (hn _ (.inr (.inr ⟨c, hc, .inl rfl⟩))) (fun _ e => hn _ (.inr (.inr ⟨c, hc, .inr e⟩))), h.lo1, h.lo2, h.d1, h.d2, h.d3⟩
theorem PostIn.kept {w w' : World} {base : Nat} {A : PostA} {P : PostV} (h : PostIn w base A P) (hb : Below w.heap.size w w') : PostIn w' base A P := h.fr (fr_below (fun _ => False) hb) (fun _ _ f => f)
theorem PostIn.foot {w : World} {base : Nat} {A : PostA} {P : PostV} (h : PostIn w base A P) {k : Nat} (hk : postFoot A P k) : base ≤ k ∧ k < w.heap.size := by
  rcases hk with rfl | rfl | ⟨c, hc, rfl | e⟩
  · exact ⟨h.lo1, h.head.lt⟩
  · exact ⟨h.lo2, h.map.lt⟩
  · exact ⟨(h.box c hc).lo, (h.box c hc).cells.lt⟩
  · exact (h.box c hc).row.lt k e
theorem lk_box {A : PostA} {P : PostV} (c : Nat) : lk (boxList A P) (c : Int) = if P.other c then some (.pointer (some ⟨A.bx c, 0, none⟩)) else none := by
  have hn : ((boxList A P).map (·.1)).Nodup := by
    unfold boxList
    rw [List.map_map]
    exact List.pairwise_map.2 ((cs_nodup P).imp (fun {a b} h e => h (by have e2 : (a : Int) = b := e; omega)))
  by_cases h : P.other c = true
  · rw [if_pos h, lk_some hn]
    unfold boxList
    exact List.mem_map.2 ⟨c, mem_cs.2 h, rfl⟩
  · rw [if_neg h, lk_none]
    intro p hp
    unfold boxList at hp
    obtain ⟨d, hd, rfl⟩ := List.mem_map.1 hp
    intro e
    have : d = c := by have e2 : (d : Int) = c := e; omega
    subst this
    exact h (mem_cs.1 hd)
theorem zeroPtr (w : World) : (zeroValue 116).run Tryz.prog w = .ok (.pointer none) w := by kernel_rfl
set_option maxHeartbeats 1000000 in
theorem at_not (base : Nat) (A : PostA) (P : PostV) (c : Int) (f : Value) (w : World) (h : PostIn w base A P) (h0 : 0 ≤ c) (h1 : c ≤ 255) (ho : P.other c = false) :
    Calls Tryz.prog 47 #[.pointer (some ⟨A.pb, 0, none⟩), .int .u8 c, f] w fun e w' => e = .returned (.int .i64 1) ∧ w = w' := by
  have k2 : w.cell? ⟨A.pb, 2, none⟩ = some (.map (some A.mb)) := h.head.cell 2 rfl
  have HM := hid h.map
  obtain ⟨n, rfl⟩ : ∃ n : Nat, c = n := ⟨c.toNat, by omega⟩
  have HL := hid (show (lk (boxList A P) (n : Int)).getD (.pointer none) = .pointer none by rw [lk_box, ho]; rfl)
  have HW := hid (show (Lit.int .u8 (n : Int)).wf = true by simp [Lit.wf, IntKind.min, IntKind.max, IntKind.signed, IntKind.bits]; omega)
  have HZ := hid zeroPtr
  clear h ho
  go_enter Tryz.func47, Tryz.ntmps47
  go_wp2_with (at_lookup; refine wpList_lookup_map (K := u8K) rfl _ _ 121 false rfl Tryz.underlying121 HZ.out rfl HM.out (n : Int) HW.out rfl ?_; rw [HL.out])
  go_ret
  exact ⟨rfl, rfl⟩
set_option maxHeartbeats 1000000 in
theorem at_box (base : Nat) (A : PostA) (P : PostV) (c : Nat) (f : FuncId) (cap : Value) (w : World) (R : Ending → World → Prop) (h : PostIn w base A P) (h1 : c ≤ 255) (ho : P.other c = true)
    (K : Calls Tryz.prog f #[.pointer (some ⟨A.bx c, 0, none⟩), cap] w R) (hR : ∀ e w', R e w' → ∃ r, e = .returned (.int .i64 r)) (hE : ∀ x w, (callFunc f x).run Tryz.prog w = .ok (.enter f x) w) :
    Calls Tryz.prog 47 #[.pointer (some ⟨A.pb, 0, none⟩), .int .u8 c, .func (.func f) #[] #[cap]] w R := by
  have k2 : w.cell? ⟨A.pb, 2, none⟩ = some (.map (some A.mb)) := h.head.cell 2 rfl
  have HM := hid h.map
  have HL := hid (show (lk (boxList A P) (c : Int)).getD (.pointer none) = .pointer (some ⟨A.bx c, 0, none⟩) by rw [lk_box, ho]; rfl)
  have HW := hid (show (Lit.int .u8 (c : Int)).wf = true by simp [Lit.wf, IntKind.min, IntKind.max, IntKind.signed, IntKind.bits]; omega)
  have HZ := hid zeroPtr
  have HK := hid K
  have HR := hid hR
  have HE := hid hE
  clear h ho K hR hE
  go_enter Tryz.func47, Tryz.ntmps47
  go_wp2_with (at_lookup; refine wpList_lookup_map (K := u8K) rfl _ _ 121 false rfl Tryz.underlying121 HZ.out rfl HM.out (c : Int) HW.out rfl ?_; rw [HL.out])
  rw [HE.out]
  go_simp
  refine HK.out.mono ?_
  intro e w' hr
  obtain ⟨r, rfl⟩ := HR.out e w' hr
  have HH := hid hr
  clear hr
  go_wp2
  exact HH.out
theorem enters_push (x : Array Value) (w : World) : (callFunc 142 x).run Tryz.prog w = .ok (.enter 142 x) w := by kernel_rfl
theorem enters_len (x : Array Value) (w : World) : (callFunc 48 x).run Tryz.prog w = .ok (.enter 48 x) w := by kernel_rfl
theorem enters_ack (x : Array Value) (w : World) : (callFunc 60 x).run Tryz.prog w = .ok (.enter 60 x) w := by kernel_rfl
theorem enters_took (x : Array Value) (w : World) : (callFunc 101 x).run Tryz.prog w = .ok (.enter 101 x) w := by kernel_rfl
def PostA.put (A : PostA) (c : Nat) (v : Value) : PostA := { A with vs := fun i => if i = c then v else A.vs i }
def PostDid (w : World) (base : Nat) (A : PostA) (P : PostV) (r : Int × PostV) (e : Ending) (w' : World) : Prop :=
  e = .returned (.int .i64 r.1) ∧ ∃ A', PostIn w' base A' r.2 ∧ (∀ k, postFoot A' r.2 k → postFoot A P k ∨ w.heap.size ≤ k) ∧ A'.pb = A.pb ∧ Fr (postFoot A P) w w'
theorem did_box {w w' : World} {base : Nat} {A : PostA} {P : PostV} {c : Nat} {f : BoxV → Int × BoxV} {e : Ending} (h : PostIn w base A P) (ho : P.other c = true) (hd : BoxDid w base (A.bx c) (A.vs c) (f (P.box c)) e w') :
    PostDid w base A P (doP f P c) e w' := by
  obtain ⟨he, v', hb, hown, hf⟩ := hd
  have hdo : doP f P c = ((f (P.box c)).1, P.put c (f (P.box c)).2) := by
    unfold doP
    rw [if_pos ho, Int.toNat_natCast]
  rw [hdo]
  have hfoot : ∀ k, boxFoot (A.bx c) v' k → boxFoot (A.bx c) (A.vs c) k ∨ w.heap.size ≤ k := by
    intro k hk
    rcases hk with rfl | hk
    · exact .inl (.inl rfl)
    · rcases hown with h1 | h1
      · exact .inl (.inr (by rw [← h1]; exact hk))
      · exact .inr (h1 k hk)
  have hlt : ∀ (d : Nat), P.other d = true → ∀ k, boxFoot (A.bx d) (A.vs d) k → k < w.heap.size := fun d hd k hk => (h.foot (.inr (.inr ⟨d, hd, hk⟩))).2
  have hsep : ∀ k, ¬ boxFoot (A.bx c) (A.vs c) k → ¬ (boxFoot (A.bx c) (A.vs c)) k := fun k hk => hk
  refine ⟨he, A.put c v', ⟨?_, ?_, ?_, h.lo1, h.lo2, h.d1, ?_, ?_⟩, ?_, rfl, hf.mono (fun b _ hb => .inr (.inr ⟨c, ho, hb⟩))⟩
  · exact h.head.fr hf (fun hk => (h.d2 c ho _ hk).1 rfl)
  · exact h.map.fr hf (fun hk => (h.d2 c ho _ hk).2 rfl)
  · intro d hd
    show BoxIn w' base (A.bx d) (if d = c then v' else A.vs d) (if d = c then (f (P.box c)).2 else P.box d)
    by_cases hdc : d = c
    · subst hdc; rw [if_pos rfl, if_pos rfl]; exact hb
    · rw [if_neg hdc, if_neg hdc]
      exact (h.box d hd).fr hf (fun hk => h.d3 d c hd ho hdc _ (.inl rfl) hk) (fun g e hk => h.d3 d c hd ho hdc _ (.inr e) hk)
  · intro d hd k hk
    have hk' : boxFoot (A.bx d) (if d = c then v' else A.vs d) k := hk
    by_cases hdc : d = c
    · subst hdc
      rw [if_pos rfl] at hk'
      rcases hfoot k hk' with h1 | h1
      · exact h.d2 d hd k h1
      · have := h.head.lt; have := h.map.lt
        exact ⟨by show k ≠ A.pb; omega, by show k ≠ A.mb; omega⟩
    · rw [if_neg hdc] at hk'
      exact h.d2 d hd k hk'
  · intro d1 d2 hd1 hd2 hne k hk1 hk2
    have hk1' : boxFoot (A.bx d1) (if d1 = c then v' else A.vs d1) k := hk1
    have hk2' : boxFoot (A.bx d2) (if d2 = c then v' else A.vs d2) k := hk2
    by_cases h1 : d1 = c
    · have h2 : d2 ≠ c := fun e => hne (h1.trans e.symm)
      subst h1
      rw [if_pos rfl] at hk1'
      rw [if_neg h2] at hk2'
      rcases hfoot k hk1' with h3 | h3
      · exact h.d3 d1 d2 hd1 hd2 hne k h3 hk2'
      · have := hlt d2 hd2 k hk2'; omega
    · rw [if_neg h1] at hk1'
      by_cases h2 : d2 = c
      · subst h2
        rw [if_pos rfl] at hk2'
        rcases hfoot k hk2' with h3 | h3
        · exact h.d3 d1 d2 hd1 hd2 hne k hk1' h3
        · have := hlt d1 hd1 k hk1'; omega
      · rw [if_neg h2] at hk2'
        exact h.d3 d1 d2 hd1 hd2 hne k hk1' hk2'
  · intro k hk
    rcases hk with rfl | rfl | ⟨d, hd, hk⟩
    · exact .inl (.inl rfl)
    · exact .inl (.inr (.inl rfl))
    · have hk' : boxFoot (A.bx d) (if d = c then v' else A.vs d) k := hk
      by_cases hdc : d = c
      · subst hdc
        rw [if_pos rfl] at hk'
        rcases hfoot k hk' with h3 | h3
        · exact .inl (.inr (.inr ⟨d, hd, h3⟩))
        · exact .inr h3
      · rw [if_neg hdc] at hk'
        exact .inl (.inr (.inr ⟨d, hd, hk'⟩))
end Go.Proofs.YtifapcpcemigdaaGreat
end
section
namespace Go.Proofs.YtifapcpcemigdaaGreat
open Go.RowKit Go.Lib Go.Tk Go.Shelf Go.Maps
attribute [-go_sem] loadCellsFrom
theorem PostDid.from {w w1 : World} {base : Nat} {A : PostA} {P : PostV} {r : Int × PostV} {e : Ending} {w' : World} (h : PostDid w1 base A P r e w') (hb : Below w.heap.size w w1) : PostDid w base A P r e w' := by
  obtain ⟨he, A', h1, h2, h3, h4⟩ := h
  refine ⟨he, A', h1, fun k hk => ?_, h3, (fr_below (postFoot A P) hb).trans h4 (fun _ _ x => x)⟩
  rcases h2 k hk with h | h
  · exact .inl h
  · exact .inr (Nat.le_trans hb.size h)
theorem PostDid.same {w w' : World} {base : Nat} {A : PostA} {P : PostV} {k : Int} (h : PostIn w base A P) (hb : Below w.heap.size w w') : PostDid w base A P (k, P) (.returned (.int .i64 k)) w' :=
  ⟨rfl, A, h.kept hb, fun _ hk => .inl hk, rfl, fr_below _ hb⟩
set_option maxRecDepth 100000 in
set_option maxHeartbeats 2000000 in
theorem push_any (base : Nat) (A : PostA) (P : PostV) (c : Int) (m : Msg) (w : World) (h : PostIn w base A P) (ok : PostOk P) (h0 : 0 ≤ c) (h1 : c ≤ 255) (hbase : base ≤ w.heap.size) :
    Calls Tryz.prog 100 #[.pointer (some ⟨A.pb, 0, none⟩), .int .u8 c, msgAgg m] w (PostDid w base A P (doP (fun X => pushX X m) P c)) := by
  obtain ⟨n, rfl⟩ : ∃ n : Nat, c = n := ⟨c.toNat, by omega⟩
  obtain ⟨w1, hw1⟩ : ∃ w1, w1 = w.alloc (.cells (encMsg m).toArray 48) := ⟨_, rfl⟩
  have b1 : Below w.heap.size w w1 := by rw [hw1]; exact below_alloc _ _
  have xm : Box w1 w.heap.size (encMsg m).toArray := by rw [hw1]; exact Box.new rfl
  have H1 := h.kept b1
  have B1 := hid b1
  unfold encMsg at hw1
  have HW := hid hw1
  cases ho : P.other n with
  | false =>
    have K := hid (fun f => at_not base A P n f w1 H1 h0 h1 ho)
    have F := hid (show PostDid w base A P (doP (fun X => pushX X m) P n) (.returned (.int .i64 1)) w1 by unfold doP; rw [if_neg (by rw [ho]; decide)]; exact PostDid.same h b1)
    clear H1 hw1 b1 xm h ok
    unfold msgAgg
    go_enter Tryz.func100, Tryz.ntmps100
    go_wp2_with fail
    rw [← HW.out]
    refine (K.out _).mono ?_
    rintro e w2 ⟨rfl, rfl⟩
    go_wp2
    go_ret
    exact F.out
  | true =>
    have hne : w.heap.size ≠ A.bx n := Nat.ne_of_gt (h.box n ho).cells.lt
    have K0 := push1_any base (A.bx n) w.heap.size (A.vs n) (P.box n) m w1 (H1.box n ho) (ok.box n) xm (Nat.le_trans hbase b1.size)
    have K := hid (at_box base A P n 142 (.pointer (some ⟨w.heap.size, 0, none⟩)) w1 _ H1 (by omega) ho K0 (fun e w' hr => ⟨_, hr.1⟩) enters_push)
    have F := hid (fun e w' (hr : BoxDid w1 base (A.bx n) (A.vs n) (pushX (P.box n) m) e w') => (did_box (f := fun X => pushX X m) H1 ho hr).from b1)
    clear H1 hw1 b1 xm h ok K0
    unfold msgAgg
    go_enter Tryz.func100, Tryz.ntmps100
    go_wp2_with fail
    rw [← HW.out]
    refine K.out.mono ?_
    intro e w2 hr
    have HR := hid (F.out e w2 hr)
    obtain ⟨rfl, -⟩ := hr
    go_wp2
    go_ret
    exact HR.out
set_option maxRecDepth 100000 in
set_option maxHeartbeats 2000000 in
theorem ack_any (base : Nat) (A : PostA) (P : PostV) (c k : Int) (w : World) (h : PostIn w base A P) (ok : PostOk P) (h0 : 0 ≤ c) (h1 : c ≤ 255) (k0 : 0 ≤ k) (k1 : k ≤ 18446744073709551615) :
    Calls Tryz.prog 27 #[.pointer (some ⟨A.pb, 0, none⟩), .int .u8 c, .int .u64 k] w (PostDid w base A P (doP (fun X => ackX X k) P c)) := by
  obtain ⟨n, rfl⟩ : ∃ n : Nat, c = n := ⟨c.toNat, by omega⟩
  obtain ⟨w1, hw1⟩ : ∃ w1, w1 = w.alloc (.cells #[.int .u64 k] 33) := ⟨_, rfl⟩
  have b1 : Below w.heap.size w w1 := by rw [hw1]; exact below_alloc _ _
  have xm : Box w1 w.heap.size #[.int .u64 k] := by rw [hw1]; exact Box.new rfl
  have H1 := h.kept b1
  have HW := hid hw1
  cases ho : P.other n with
  | false =>
    have K := hid (fun f => at_not base A P n f w1 H1 h0 h1 ho)
    have F := hid (show PostDid w base A P (doP (fun X => ackX X k) P n) (.returned (.int .i64 1)) w1 by unfold doP; rw [if_neg (by rw [ho]; decide)]; exact PostDid.same h b1)
    clear H1 hw1 b1 xm h ok
    go_enter Tryz.func27, Tryz.ntmps27
    go_wp2_with fail
    rw [← HW.out]
    refine (K.out _).mono ?_
    rintro e w2 ⟨rfl, rfl⟩
    go_wp2
    go_ret
    exact F.out
  | true =>
    have K0 := ack1_any base (A.bx n) w.heap.size (A.vs n) (P.box n) k w1 (H1.box n ho) (ok.box n) xm k0 k1
    have K := hid (at_box base A P n 60 (.pointer (some ⟨w.heap.size, 0, none⟩)) w1 _ H1 (by omega) ho K0 (fun e w' hr => ⟨_, hr.1⟩) enters_ack)
    have F := hid (fun e w' (hr : BoxDid w1 base (A.bx n) (A.vs n) (ackX (P.box n) k) e w') => (did_box (f := fun X => ackX X k) H1 ho hr).from b1)
    clear H1 hw1 b1 xm h ok K0
    go_enter Tryz.func27, Tryz.ntmps27
    go_wp2_with fail
    rw [← HW.out]
    refine K.out.mono ?_
    intro e w2 hr
    have HR := hid (F.out e w2 hr)
    obtain ⟨rfl, -⟩ := hr
    go_wp2
    go_ret
    exact HR.out
set_option maxRecDepth 100000 in
set_option maxHeartbeats 2000000 in
theorem took_any (base : Nat) (A : PostA) (P : PostV) (c k : Int) (w : World) (h : PostIn w base A P) (ok : PostOk P) (h0 : 0 ≤ c) (h1 : c ≤ 255) (k0 : 0 ≤ k) (k1 : k ≤ 18446744073709551615) :
    Calls Tryz.prog 55 #[.pointer (some ⟨A.pb, 0, none⟩), .int .u8 c, .int .u64 k] w (PostDid w base A P (doP (fun X => tookX X k) P c)) := by
  obtain ⟨n, rfl⟩ : ∃ n : Nat, c = n := ⟨c.toNat, by omega⟩
  obtain ⟨w1, hw1⟩ : ∃ w1, w1 = w.alloc (.cells #[.int .u64 k] 33) := ⟨_, rfl⟩
  have b1 : Below w.heap.size w w1 := by rw [hw1]; exact below_alloc _ _
  have xm : Box w1 w.heap.size #[.int .u64 k] := by rw [hw1]; exact Box.new rfl
  have H1 := h.kept b1
  have HW := hid hw1
  cases ho : P.other n with
  | false =>
    have K := hid (fun f => at_not base A P n f w1 H1 h0 h1 ho)
    have F := hid (show PostDid w base A P (doP (fun X => tookX X k) P n) (.returned (.int .i64 1)) w1 by unfold doP; rw [if_neg (by rw [ho]; decide)]; exact PostDid.same h b1)
    clear H1 hw1 b1 xm h ok
    go_enter Tryz.func55, Tryz.ntmps55
    go_wp2_with fail
    rw [← HW.out]
    refine (K.out _).mono ?_
    rintro e w2 ⟨rfl, rfl⟩
    go_wp2
    go_ret
    exact F.out
  | true =>
    have K0 := took1_any base (A.bx n) w.heap.size (A.vs n) (P.box n) k w1 (H1.box n ho) (ok.box n) xm k0 k1
    have K := hid (at_box base A P n 101 (.pointer (some ⟨w.heap.size, 0, none⟩)) w1 _ H1 (by omega) ho K0 (fun e w' hr => ⟨_, hr.1⟩) enters_took)
    have F := hid (fun e w' (hr : BoxDid w1 base (A.bx n) (A.vs n) (tookX (P.box n) k) e w') => (did_box (f := fun X => tookX X k) H1 ho hr).from b1)
    clear H1 hw1 b1 xm h ok K0
    go_enter Tryz.func55, Tryz.ntmps55
    go_wp2_with fail
    rw [← HW.out]
    refine K.out.mono ?_
    intro e w2 hr
    have HR := hid (F.out e w2 hr)
    obtain ⟨rfl, -⟩ := hr
    go_wp2
    go_ret
    exact HR.out
theorem len_results {w : World} {b : Nat} {n : Int} {tmps : Array Value} (h4 : tmps[4]?.getD undef = .pointer (some ⟨b, 0, none⟩)) (hc : w.cell? ⟨b, 0, none⟩ = some (.int .i64 n)) : (results Tryz.f22 tmps).run Tryz.prog w = .ok (.int .i64 n) w := by
  unfold results
  rw [Tryz.results22]
  simp [go_sem, h4, hc]
def lenP (P : PostV) (c : Int) : Int := if P.other c then ((P.box c.toNat).wait.length : Int) else 0
set_option maxRecDepth 100000 in
set_option maxHeartbeats 2000000 in
theorem len_any (base : Nat) (A : PostA) (P : PostV) (c : Int) (w : World) (h : PostIn w base A P) (h0 : 0 ≤ c) (h1 : c ≤ 255) :
    Calls Tryz.prog 22 #[.pointer (some ⟨A.pb, 0, none⟩), .int .u8 c] w fun e w' => e = .returned (.int .i64 (lenP P c)) ∧ Below w.heap.size w w' := by
  obtain ⟨n, rfl⟩ : ∃ n : Nat, c = n := ⟨c.toNat, by omega⟩
  obtain ⟨w1, hw1⟩ : ∃ w1, w1 = w.alloc (.cells #[.int .i64 0] 3) := ⟨_, rfl⟩
  have b1 : Below w.heap.size w w1 := by rw [hw1]; exact below_alloc _ _
  have xm : Box w1 w.heap.size #[.int .i64 0] := by rw [hw1]; exact Box.new rfl
  have H1 := h.kept b1
  have HW := hid hw1
  have B1 := hid b1
  have XM := hid xm
  cases ho : P.other n with
  | false =>
    have K := hid (fun f => at_not base A P n f w1 H1 h0 h1 ho)
    have F := hid (show lenP P n = 0 by unfold lenP; rw [if_neg (by rw [ho]; decide)])
    have c0 : w1.cell? ⟨w.heap.size, 0, none⟩ = some (.int .i64 0) := xm.cell 0 rfl
    have f0 := xm.free 0
    clear H1 hw1 b1 xm h
    go_enter Tryz.func22, Tryz.ntmps22
    go_wp2_with fail
    rw [← HW.out]
    refine (K.out _).mono ?_
    rintro e w2 ⟨rfl, rfl⟩
    go_wp2
    refine bodyPost_ret (len_results (n := 0) rfl ?_) rfl ?_
    · exact (XM.out.set 0 _).cell 0 rfl
    · exact ⟨by rw [F.out], B1.out.setCell (p := ⟨w.heap.size, 0, none⟩) (Nat.le_refl _) _⟩
  | true =>
    have K0 := len1_any base (A.bx n) w.heap.size (A.vs n) (.int .i64 0) (P.box n) w1 (H1.box n ho) xm
    have K := hid (at_box base A P n 48 (.pointer (some ⟨w.heap.size, 0, none⟩)) w1 _ H1 (by omega) ho K0 (fun e w' hr => ⟨_, hr.1⟩) enters_len)
    clear H1 hw1 b1 xm h K0
    go_enter Tryz.func22, Tryz.ntmps22
    go_wp2_with fail
    rw [← HW.out]
    refine K.out.mono ?_
    rintro e w2 ⟨rfl, hw2⟩
    have x2 : Box w2 w.heap.size #[.int .i64 (P.box n).wait.length] := by rw [hw2]; exact XM.out.set 0 _
    have c0 : w2.cell? ⟨w.heap.size, 0, none⟩ = some (.int .i64 (P.box n).wait.length) := x2.cell 0 rfl
    have f0 := x2.free 0
    have B2 := hid (show Below w.heap.size w w2 by rw [hw2]; exact B1.out.setCell (p := ⟨w.heap.size, 0, none⟩) (Nat.le_refl _) _)
    have X2 := hid x2
    clear x2 hw2
    have F := hid (show lenP P n = (P.box n).wait.length by unfold lenP; rw [if_pos ho, Int.toNat_natCast])
    go_wp2
    refine bodyPost_ret (len_results (n := (P.box n).wait.length) rfl ?_) rfl ?_
    · exact (X2.out.set 0 _).cell 0 rfl
    · exact ⟨by rw [F.out], B2.out.setCell (p := ⟨w.heap.size, 0, none⟩) (Nat.le_refl _) _⟩
end Go.Proofs.YtifapcpcemigdaaGreat
end
