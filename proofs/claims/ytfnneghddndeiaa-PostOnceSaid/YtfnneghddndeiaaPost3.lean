/- POST 3: a post in memory; what is done with a carrier's box. -/
import Derived.Test.YtfnneghddndeiaaPost2
namespace Go.Proofs.Ytfnneghddndeiaa
open Go.RowKit Go.Lib Go.Tk Go.Shelf Go.Maps
attribute [-go_sem] loadCellsFrom
def u8K : KeyKind Try.prog 5 Int where
  kv := .int .u8
  ok x := (Lit.int .u8 x).wf = true
  inj := fun h => by cases h; rfl
  keyed := int_keyed Try.underlying5
  reads := fun h => ⟨_, keyOf_int_mk Try.underlying5 h⟩
structure PostA where
  pb : Nat
  mb : Nat
  bx : Nat → Nat
  vs : Nat → Value
def boxList (A : PostA) (P : PostV) : List (Int × Value) := P.cs.map fun (c : Nat) => ((c : Int), .pointer (some ⟨A.bx c, 0, none⟩))
structure PostIn (w : World) (base : Nat) (A : PostA) (P : PostV) : Prop where
  head : Box w A.pb #[.int .u8 P.self, .int .i64 P.n, .map (some A.mb)]
  map : MapAt u8K w A.mb (boxList A P)
  box : ∀ c : Nat, P.other c = true → BoxIn w base (A.bx c) (A.vs c) (P.box c)
  lo1 : base ≤ A.pb
  lo2 : base ≤ A.mb
  d1 : A.pb ≠ A.mb
  d2 : ∀ c : Nat, P.other c = true → ∀ k, boxFoot (A.bx c) (A.vs c) k → k ≠ A.pb ∧ k ≠ A.mb
  d3 : ∀ c d : Nat, P.other c = true → P.other d = true → c ≠ d → ∀ k, boxFoot (A.bx c) (A.vs c) k → ¬ boxFoot (A.bx d) (A.vs d) k
def postFoot (A : PostA) (P : PostV) : Nat → Prop := fun k => k = A.pb ∨ k = A.mb ∨ ∃ c : Nat, P.other c = true ∧ boxFoot (A.bx c) (A.vs c) k
theorem PostIn.fr {S : Nat → Prop} {w w' : World} {base : Nat} {A : PostA} {P : PostV} (h : PostIn w base A P) (f : Fr S w w') (hn : ∀ k, postFoot A P k → ¬ S k) : PostIn w' base A P :=
  ⟨h.head.fr f (hn _ (.inl rfl)), h.map.fr f (hn _ (.inr (.inl rfl))), fun c hc => (h.box c hc).fr f (hn _ (.inr (.inr ⟨c, hc, .inl rfl⟩))) (fun _ e => hn _ (.inr (.inr ⟨c, hc, .inr e⟩))), h.lo1, h.lo2, h.d1, h.d2, h.d3⟩
theorem PostIn.kept {w w' : World} {base : Nat} {A : PostA} {P : PostV} (h : PostIn w base A P) (hb : Below w.heap.size w w') : PostIn w' base A P := h.fr (fr_below (fun _ => False) hb) (fun _ _ f => f)
theorem PostIn.foot {w : World} {base : Nat} {A : PostA} {P : PostV} (h : PostIn w base A P) {k : Nat} (hk : postFoot A P k) : base ≤ k ∧ k < w.heap.size := by
  rcases hk with rfl | rfl | ⟨c, hc, rfl | e⟩
  · exact ⟨h.lo1, h.head.lt⟩
  · exact ⟨h.lo2, h.map.lt⟩
  · exact ⟨(h.box c hc).lo, (h.box c hc).cells.lt⟩
  · exact (h.box c hc).row.lt k e
theorem lk_box {A : PostA} {P : PostV} (c : Nat) : lk (boxList A P) (c : Int) = if P.other c then some (.pointer (some ⟨A.bx c, 0, none⟩)) else none := by
  have hn : ((boxList A P).map (·.1)).Nodup := by
    unfold boxList
    rw [List.map_map]
    exact List.pairwise_map.2 ((cs_nodup P).imp (fun {a b} h e => h (by have e2 : (a : Int) = b := e; omega)))
  by_cases h : P.other c = true
  · rw [if_pos h, lk_some hn]
    unfold boxList
    exact List.mem_map.2 ⟨c, mem_cs.2 h, rfl⟩
  · rw [if_neg h, lk_none]
    intro p hp
    unfold boxList at hp
    obtain ⟨d, hd, rfl⟩ := List.mem_map.1 hp
    intro e
    have : d = c := by have e2 : (d : Int) = c := e; omega
    subst this
    exact h (mem_cs.1 hd)
theorem zeroPtr (w : World) : (zeroValue 63).run Try.prog w = .ok (.pointer none) w := by kernel_rfl
set_option maxHeartbeats 1000000 in
theorem at_not (base : Nat) (A : PostA) (P : PostV) (c : Int) (f : Value) (w : World) (h : PostIn w base A P) (h0 : 0 ≤ c) (h1 : c ≤ 255) (ho : P.other c = false) :
    Calls Try.prog 17 #[.pointer (some ⟨A.pb, 0, none⟩), .int .u8 c, f] w fun e w' => e = .returned (.int .i64 1) ∧ w = w' := by
  have k2 : w.cell? ⟨A.pb, 2, none⟩ = some (.map (some A.mb)) := h.head.cell 2 rfl
  have HM := hid h.map
  obtain ⟨n, rfl⟩ : ∃ n : Nat, c = n := ⟨c.toNat, by omega⟩
  have HL := hid (show (lk (boxList A P) (n : Int)).getD (.pointer none) = .pointer none by rw [lk_box, ho]; rfl)
  have HW := hid (show (Lit.int .u8 (n : Int)).wf = true by simp [Lit.wf, IntKind.min, IntKind.max, IntKind.signed, IntKind.bits]; omega)
  have HZ := hid zeroPtr
  clear h ho
  go_enter Try.func17, Try.ntmps17
  go_wp2_with (at_lookup; refine wpList_lookup_map (K := u8K) rfl _ _ 60 false rfl Try.underlying60 HZ.out rfl HM.out (n : Int) HW.out rfl ?_; rw [HL.out])
  go_ret
  exact ⟨rfl, rfl⟩
set_option maxHeartbeats 1000000 in
theorem at_box (base : Nat) (A : PostA) (P : PostV) (c : Nat) (f : FuncId) (cap : Value) (w : World) (R : Ending → World → Prop) (h : PostIn w base A P) (h1 : c ≤ 255) (ho : P.other c = true)
    (K : Calls Try.prog f #[.pointer (some ⟨A.bx c, 0, none⟩), cap] w R) (hR : ∀ e w', R e w' → ∃ r, e = .returned (.int .i64 r)) (hE : ∀ x w, (callFunc f x).run Try.prog w = .ok (.enter f x) w) :
    Calls Try.prog 17 #[.pointer (some ⟨A.pb, 0, none⟩), .int .u8 c, .func (.func f) #[] #[cap]] w R := by
  have k2 : w.cell? ⟨A.pb, 2, none⟩ = some (.map (some A.mb)) := h.head.cell 2 rfl
  have HM := hid h.map
  have HL := hid (show (lk (boxList A P) (c : Int)).getD (.pointer none) = .pointer (some ⟨A.bx c, 0, none⟩) by rw [lk_box, ho]; rfl)
  have HW := hid (show (Lit.int .u8 (c : Int)).wf = true by simp [Lit.wf, IntKind.min, IntKind.max, IntKind.signed, IntKind.bits]; omega)
  have HZ := hid zeroPtr
  have HK := hid K
  have HR := hid hR
  have HE := hid hE
  clear h ho K hR hE
  go_enter Try.func17, Try.ntmps17
  go_wp2_with (at_lookup; refine wpList_lookup_map (K := u8K) rfl _ _ 60 false rfl Try.underlying60 HZ.out rfl HM.out (c : Int) HW.out rfl ?_; rw [HL.out])
  rw [HE.out]
  go_simp
  refine HK.out.mono ?_
  intro e w' hr
  obtain ⟨r, rfl⟩ := HR.out e w' hr
  have HH := hid hr
  clear hr
  go_wp2
  exact HH.out
theorem enters_push (x : Array Value) (w : World) : (callFunc 18 x).run Try.prog w = .ok (.enter 18 x) w := by kernel_rfl
theorem enters_len (x : Array Value) (w : World) : (callFunc 25 x).run Try.prog w = .ok (.enter 25 x) w := by kernel_rfl
theorem enters_given (x : Array Value) (w : World) : (callFunc 24 x).run Try.prog w = .ok (.enter 24 x) w := by kernel_rfl
theorem enters_last (x : Array Value) (w : World) : (callFunc 21 x).run Try.prog w = .ok (.enter 21 x) w := by kernel_rfl
theorem enters_ack (x : Array Value) (w : World) : (callFunc 22 x).run Try.prog w = .ok (.enter 22 x) w := by kernel_rfl
theorem enters_took (x : Array Value) (w : World) : (callFunc 20 x).run Try.prog w = .ok (.enter 20 x) w := by kernel_rfl
def PostA.put (A : PostA) (c : Nat) (v : Value) : PostA := { A with vs := fun i => if i = c then v else A.vs i }
def PostDid (w : World) (base : Nat) (A : PostA) (P : PostV) (r : Int × PostV) (e : Ending) (w' : World) : Prop :=
  e = .returned (.int .i64 r.1) ∧ ∃ A', PostIn w' base A' r.2 ∧ (∀ k, postFoot A' r.2 k → postFoot A P k ∨ w.heap.size ≤ k) ∧ A'.pb = A.pb ∧ Fr (postFoot A P) w w'
theorem did_box {w w' : World} {base : Nat} {A : PostA} {P : PostV} {c : Nat} {f : BoxV → Int × BoxV} {e : Ending} (h : PostIn w base A P) (ho : P.other c = true) (hd : BoxDid w base (A.bx c) (A.vs c) (f (P.box c)) e w') :
    PostDid w base A P (doP f P c) e w' := by
  obtain ⟨he, v', hb, hown, hf⟩ := hd
  have hdo : doP f P c = ((f (P.box c)).1, P.put c (f (P.box c)).2) := by
    unfold doP
    rw [if_pos ho, Int.toNat_natCast]
  rw [hdo]
  have hfoot : ∀ k, boxFoot (A.bx c) v' k → boxFoot (A.bx c) (A.vs c) k ∨ w.heap.size ≤ k := by
    intro k hk
    rcases hk with rfl | hk
    · exact .inl (.inl rfl)
    · rcases hown with h1 | h1
      · exact .inl (.inr (by rw [← h1]; exact hk))
      · exact .inr (h1 k hk)
  have hlt : ∀ (d : Nat), P.other d = true → ∀ k, boxFoot (A.bx d) (A.vs d) k → k < w.heap.size := fun d hd k hk => (h.foot (.inr (.inr ⟨d, hd, hk⟩))).2
  have hsep : ∀ k, ¬ boxFoot (A.bx c) (A.vs c) k → ¬ (boxFoot (A.bx c) (A.vs c)) k := fun k hk => hk
  refine ⟨he, A.put c v', ⟨?_, ?_, ?_, h.lo1, h.lo2, h.d1, ?_, ?_⟩, ?_, rfl, hf.mono (fun b _ hb => .inr (.inr ⟨c, ho, hb⟩))⟩
  · exact h.head.fr hf (fun hk => (h.d2 c ho _ hk).1 rfl)
  · exact h.map.fr hf (fun hk => (h.d2 c ho _ hk).2 rfl)
  · intro d hd
    show BoxIn w' base (A.bx d) (if d = c then v' else A.vs d) (if d = c then (f (P.box c)).2 else P.box d)
    by_cases hdc : d = c
    · subst hdc; rw [if_pos rfl, if_pos rfl]; exact hb
    · rw [if_neg hdc, if_neg hdc]
      exact (h.box d hd).fr hf (fun hk => h.d3 d c hd ho hdc _ (.inl rfl) hk) (fun g e hk => h.d3 d c hd ho hdc _ (.inr e) hk)
  · intro d hd k hk
    have hk' : boxFoot (A.bx d) (if d = c then v' else A.vs d) k := hk
    by_cases hdc : d = c
    · subst hdc
      rw [if_pos rfl] at hk'
      rcases hfoot k hk' with h1 | h1
      · exact h.d2 d hd k h1
      · have := h.head.lt; have := h.map.lt
        exact ⟨by show k ≠ A.pb; omega, by show k ≠ A.mb; omega⟩
    · rw [if_neg hdc] at hk'
      exact h.d2 d hd k hk'
  · intro d1 d2 hd1 hd2 hne k hk1 hk2
    have hk1' : boxFoot (A.bx d1) (if d1 = c then v' else A.vs d1) k := hk1
    have hk2' : boxFoot (A.bx d2) (if d2 = c then v' else A.vs d2) k := hk2
    by_cases h1 : d1 = c
    · have h2 : d2 ≠ c := fun e => hne (h1.trans e.symm)
      subst h1
      rw [if_pos rfl] at hk1'
      rw [if_neg h2] at hk2'
      rcases hfoot k hk1' with h3 | h3
      · exact h.d3 d1 d2 hd1 hd2 hne k h3 hk2'
      · have := hlt d2 hd2 k hk2'; omega
    · rw [if_neg h1] at hk1'
      by_cases h2 : d2 = c
      · subst h2
        rw [if_pos rfl] at hk2'
        rcases hfoot k hk2' with h3 | h3
        · exact h.d3 d1 d2 hd1 hd2 hne k hk1' h3
        · have := hlt d1 hd1 k hk1'; omega
      · rw [if_neg h2] at hk2'
        exact h.d3 d1 d2 hd1 hd2 hne k hk1' hk2'
  · intro k hk
    rcases hk with rfl | rfl | ⟨d, hd, hk⟩
    · exact .inl (.inl rfl)
    · exact .inl (.inr (.inl rfl))
    · have hk' : boxFoot (A.bx d) (if d = c then v' else A.vs d) k := hk
      by_cases hdc : d = c
      · subst hdc
        rw [if_pos rfl] at hk'
        rcases hfoot k hk' with h3 | h3
        · exact .inl (.inr (.inr ⟨d, hd, h3⟩))
        · exact .inr h3
      · rw [if_neg hdc] at hk'
        exact .inl (.inr (.inr ⟨d, hd, hk'⟩))
end Go.Proofs.Ytfnneghddndeiaa
