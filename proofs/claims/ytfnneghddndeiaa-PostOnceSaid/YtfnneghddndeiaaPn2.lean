/- POST ONCE by SX 2: a post as one thing among others. -/
import Derived.Test.YtfnneghddndeiaaPn1
import Derived.Test.YtfnneghddndeiaaPost8
import Derived.Test.YtfnneghddndeiaaOnce1
import Derived.Test.YtfnneghddndeiaaM5af83ef
namespace Go.Proofs.Ytfnneghddndeiaa
set_option maxRecDepth 100000
open Go.RowKit Go.Lib Go.Tk Go.Shelf Go.Vc Go.Sx
set_option linter.unusedVariables false
set_option linter.unusedSimpArgs false
theorem mem_did {c c' : Chunk} {R : List Chunk} {w : World} (h : Mem (c :: R) w) {Q : Ending → World → Prop} {f : Nat} {args : Array Value}
    (hc : ∀ S, c.at_ S w → (∀ k, S k → k < w.heap.size) → Calls Try.prog f args w fun e w' => Fr S w w' ∧ (∃ S', c'.at_ S' w' ∧ ∀ k, S' k → (S k ∨ w.heap.size ≤ k) ∧ k < w'.heap.size) ∧ Q e w') :
    Calls Try.prog f args w fun e w' => Q e w' ∧ Mem (c' :: R) w' := by
  obtain ⟨F, h⟩ := h
  refine (hc (F 0) (h.has 0 c rfl) (fun k hk => h.hi 0 k (Nat.zero_lt_succ _) hk)).mono fun e w' ⟨h1, h2, h3⟩ => ⟨h3, ?_⟩
  let c0 : Chunk := ⟨fun S _ => S = F 0, fun _ _ h => h⟩
  have hm : Mem (c0 :: R) w := ⟨F, ⟨fun i d hd => by
    cases i with
    | zero => cases hd; rfl
    | succ i => exact h.has (i + 1) d hd, fun i k hi hk => h.hi i k hi hk, fun i j k hi hj hij hk => h.apart i j k hi hj hij hk⟩⟩
  exact Mem.step hm 0 (c := c0) rfl fun S hS _ => by
    have hS : S = F 0 := hS
    subst hS; exact ⟨h1, h2⟩
def postC (pb : Nat) (P : PostV) : Chunk where
  at_ S w := PostAt w S pb P
  stable {S w w'} hk hi h := h.fr (T := fun k => ¬ S k) ⟨hk.os, hk.tape, hk.output, hk.size, fun b hb hn => hk.block b (Classical.byContradiction hn) hb⟩ (fun k hs hn => hn hs)
def postF (P : PostV) : Nat → Value → Chunk := fun pb _ => postC pb P
theorem post_rd {P : PostV} {f : Nat} {cs : List SV} {v : SV} (hv : ∀ ε ε' : Env, v.den ε = v.den ε')
    (h : ∀ (S : Nat → Prop) (pb : Nat) (w : World) (ε : Env), PostAt w S pb P → Calls Try.prog f (#[.pointer (some ⟨pb, 0, none⟩)] ++ (SV.dens ε cs).toArray) w fun e w' => e = .returned (v.den ε) ∧ Below w.heap.size w w') :
    CallOK Try.prog f (.ptr 0 0 0 :: cs) [((0, 0), .fam (postF P))] [] v [] := by
  intro ε R w hM
  have hM : Mem (postC (ε 0 0).1 P :: R) w := hM
  obtain ⟨F, hl⟩ := hM
  have := h (F 0) (ε 0 0).1 w ε (hl.has 0 _ rfl)
  have e1 : (SV.dens ε (.ptr 0 0 0 :: cs)).toArray = #[.pointer (some ⟨(ε 0 0).1, 0, none⟩)] ++ (SV.dens ε cs).toArray := by
    simp [SV.dens, SV.den]
  rw [e1]
  refine this.mono fun e w' ⟨h1, h2⟩ => ⟨ε 1, ?_, ?_⟩
  · rw [h1, eset_self]
  · rw [eset_self]; exact Mem.kept (cs := postC (ε 0 0).1 P :: R) ⟨F, hl⟩ h2
theorem post_wr {P : PostV} {f : Nat} {cs : List SV} {r : Int × PostV}
    (h : ∀ (S : Nat → Prop) (pb : Nat) (w : World) (ε : Env), PostAt w S pb P → Calls Try.prog f (#[.pointer (some ⟨pb, 0, none⟩)] ++ (SV.dens ε cs).toArray) w (AtDid w S pb r)) :
    CallOK Try.prog f (.ptr 0 0 0 :: cs) [] [((0, 0), .fam (postF P))] (.val (.int .i64 r.1)) [((0, 0), .fam (postF r.2))] := by
  intro ε R w hM
  have hM : Mem (postC (ε 0 0).1 P :: R) w := hM
  have e1 : (SV.dens ε (.ptr 0 0 0 :: cs)).toArray = #[.pointer (some ⟨(ε 0 0).1, 0, none⟩)] ++ (SV.dens ε cs).toArray := by
    simp [SV.dens, SV.den]
  rw [e1]
  refine (mem_did (c' := postC (ε 0 0).1 r.2) (Q := fun e _ => e = .returned (.int .i64 r.1)) hM fun S hS hlt => (h S (ε 0 0).1 w ε hS).mono fun e w' ⟨h1, h2, h3⟩ => ⟨h3, ⟨_, h2.now, fun k hk => hk⟩, h1⟩).mono fun e w' ⟨h1, h2⟩ => ⟨ε 1, h1, ?_⟩
  rw [eset_self]; exact h2
def msgS (m : Msg) : List SV := [.val (.int .u8 m.k), .val (.int .u8 m.tc), .val (.int .u64 m.tr), .val (.int .u8 m.ix), .val (.int .u8 m.lc), .val (.int .u16 m.lf), .val (.int .u32 m.lx), .val (.int .i64 m.v), .val (.int .u8 m.st), .val (.int .u32 m.nn), .val (.int .i64 m.amt), .val (.int .i64 m.cd)]
def u8S (c : Int) : SV := .val (.int .u8 c)
def u64S (c : Int) : SV := .val (.int .u64 c)
def PushF : Nat := 8
def AckF : Nat := 12
def TookF : Nat := 10
def LenF : Nat := 14
def GivenF : Nat := 13
def LastF : Nat := 11
def PacksF : Nat := 9
def PNewF : Nat := 7
def Wakes19F : Nat := 6
theorem push_c (P : PostV) (c : Int) (m : Msg) (h0 : 0 ≤ c) (h1 : c ≤ 255) (hg : P.other c = true → (P.box c.toNat).given < 4294967296) :
    CallOK Try.prog PushF [.ptr 0 0 0, u8S c, .agg (msgS m)] [] [((0, 0), .fam (postF P))] (.val (.int .i64 (doP (fun X => pushX X m) P c).1)) [((0, 0), .fam (postF (doP (fun X => pushX X m) P c).2))] :=
  post_wr (cs := [u8S c, .agg (msgS m)]) fun S pb w ε h => push_at S pb P c m w h h0 h1 hg
theorem ack_c (P : PostV) (c k : Int) (h0 : 0 ≤ c) (h1 : c ≤ 255) (k0 : 0 ≤ k) (k1 : k ≤ 18446744073709551615) :
    CallOK Try.prog AckF [.ptr 0 0 0, u8S c, u64S k] [] [((0, 0), .fam (postF P))] (.val (.int .i64 (doP (fun X => ackX X k) P c).1)) [((0, 0), .fam (postF (doP (fun X => ackX X k) P c).2))] :=
  post_wr (cs := [u8S c, u64S k]) fun S pb w ε h => ack_at S pb P c k w h h0 h1 k0 k1
theorem took_c (P : PostV) (c k : Int) (h0 : 0 ≤ c) (h1 : c ≤ 255) (k0 : 0 ≤ k) (k1 : k ≤ 18446744073709551615) :
    CallOK Try.prog TookF [.ptr 0 0 0, u8S c, u64S k] [] [((0, 0), .fam (postF P))] (.val (.int .i64 (doP (fun X => tookX X k) P c).1)) [((0, 0), .fam (postF (doP (fun X => tookX X k) P c).2))] :=
  post_wr (cs := [u8S c, u64S k]) fun S pb w ε h => took_at S pb P c k w h h0 h1 k0 k1
theorem len_c (P : PostV) (c : Int) (h0 : 0 ≤ c) (h1 : c ≤ 255) : CallOK Try.prog LenF [.ptr 0 0 0, u8S c] [((0, 0), .fam (postF P))] [] (.val (.int .i64 (lenP P c))) [] :=
  post_rd (cs := [u8S c]) (fun _ _ => rfl) fun S pb w ε h => len_at S pb P c w h h0 h1
theorem given_c (P : PostV) (c : Int) (h0 : 0 ≤ c) (h1 : c ≤ 255) : CallOK Try.prog GivenF [.ptr 0 0 0, u8S c] [((0, 0), .fam (postF P))] [] (.val (.int .u64 (givenP P c))) [] :=
  post_rd (cs := [u8S c]) (fun _ _ => rfl) fun S pb w ε h => given_at S pb P c w h h0 h1
theorem last_c (P : PostV) (c : Int) (h0 : 0 ≤ c) (h1 : c ≤ 255) : CallOK Try.prog LastF [.ptr 0 0 0, u8S c] [((0, 0), .fam (postF P))] [] (.val (.int .u64 (lastP P c))) [] :=
  post_rd (cs := [u8S c]) (fun _ _ => rfl) fun S pb w ε h => last_at S pb P c w h h0 h1
theorem packs_c (P : PostV) : CallOK Try.prog PacksF [.ptr 0 0 0] [((0, 0), .fam (postF P))] [] (.raw 1 0) [((1, 0), .row 50 16 (packets P).length (.shal (cellsL encPk (packets P))) [])] := by
  intro ε R w hM
  have hM : Mem (postC (ε 0 0).1 P :: R) w := hM
  have hm2 := hM
  obtain ⟨F, hl⟩ := hm2
  refine (packets_at (F 0) (ε 0 0).1 P w (hl.has 0 _ rfl)).mono fun e w' ⟨v, h1, h2, h3⟩ => ⟨fun _ => (0, v), ?_, ?_⟩
  · rw [h1]
    simp only [SV.den, eset_at]
    rw [asSl_self (RowF.of h2)]
  · have hr : Mem (rowC 50 16 v (packets P).length (cellsL encPk (packets P)) :: postC (ε 0 0).1 P :: R) w' :=
      hM.fresh h3 (fun k => v.ownBlock = some k) ⟨fun g hg => hg, RowF.of h2⟩ fun k hk => ⟨(h2.lt k hk).1, (h2.lt k hk).2⟩
    have e0 : eset ε 1 (fun _ => (0, v)) 0 0 = ε 0 0 := by rw [eset_ne (by decide)]
    simp only [hden, List.map_cons, List.map_nil, List.cons_append, List.nil_append, SC.den, SL.den, eset_at, e0, asSl_self (RowF.of h2)]
    exact hr.front 1 rfl
theorem new_c (self : Int) (h0 : 0 ≤ self) (h1 : self ≤ 255) (hn : newE self 2 = 0) : CallOK Try.prog PNewF [u8S self, .val (.int .i64 2)] [] [] (.tup [.ptr 1 0 0, .val (.int .i64 0)]) [((1, 0), .fam (postF (newP self 2)))] := by
  intro ε R w hM
  refine (new_at self 2 w h0 h1 hn).mono fun e w' ⟨pb, h2, h3, h4⟩ => ⟨fun _ => (pb, undef), by rw [h2]; simp only [SV.den, SV.dens, eset_at], ?_⟩
  have hM : Mem R w := hM
  have hr : Mem (postC pb (newP self 2) :: R) w' := hM.fresh h4 _ (c := postC pb (newP self 2)) h3.now fun k hk => hk
  simp only [hden, List.map_cons, List.map_nil, List.cons_append, List.nil_append, SC.den, eset_at]
  exact hr
theorem wakes19_c : CallOK Try.prog Wakes19F [] [] [] (.val (.bool true)) [] := by
  intro ε R w hM
  have hM : Mem R w := hM
  exact (wakes19 w).mono fun e w' ⟨h1, h2⟩ => ⟨ε 1, h1, by rw [eset_self]; exact hM.kept h2⟩
end Go.Proofs.Ytfnneghddndeiaa
