/- POST, PostOnce, plain: two posts, what was pushed, what was taken, what is under way. -/
import Derived.Test.YtfnneghddndeiaaNumPlain
import Derived.Test.YtfnneghddndeiaaM611e1d5
namespace Go.Proofs.Ytfnneghddndeiaa
open Go.RowKit Go.Lib Go.Tk
structure OnceOk (PA PB : PostV) (pu : List Msg) (nt : Nat) (way : List Pk) (acks : List Int) (k : Nat) : Prop where
  okA : PostOk PA
  okB : PostOk PB
  a0 : PA.self = 0
  a1 : PA.n = 2
  b0 : PB.self = 1
  b1 : PB.n = 2
  given : (PA.box 1).given = pu.length
  wait : (PA.box 1).wait = pu.drop (pu.length - (PA.box 1).wait.length)
  wl : (PA.box 1).wait.length ≤ pu.length
  last : (PB.box 0).last = nt
  tk : nt ≤ pu.length
  dn : pu.length ≤ nt + (PA.box 1).wait.length
  wayOk : ∀ p ∈ way, 1 ≤ p.num ∧ p.num ≤ pu.length ∧ pu[p.num.toNat - 1]? = some p.m
  acksOk : ∀ x ∈ acks, 0 ≤ x ∧ x ≤ nt
  lp : pu.length ≤ k
  lw : way.length ≤ k
  la : acks.length ≤ k
theorem OnceOk.oA {PA PB : PostV} {pu : List Msg} {nt : Nat} {way : List Pk} {acks : List Int} {k : Nat} (h : OnceOk PA PB pu nt way acks k) : PA.other 1 = true := by
  simp [PostV.other, h.a0, h.a1]
theorem OnceOk.oB {PA PB : PostV} {pu : List Msg} {nt : Nat} {way : List Pk} {acks : List Int} {k : Nat} (h : OnceOk PA PB pu nt way acks k) : PB.other 0 = true := by
  simp [PostV.other, h.b0, h.b1]
theorem doP_at {f : BoxV → Int × BoxV} {P : PostV} {c : Nat} (h : P.other (c : Int) = true) : doP f P c = ((f (P.box c)).1, P.put c (f (P.box c)).2) := by
  unfold doP; rw [if_pos h, Int.toNat_natCast]
theorem doP_1 {f : BoxV → Int × BoxV} {P : PostV} (h : P.other 1 = true) : doP f P 1 = ((f (P.box 1)).1, P.put 1 (f (P.box 1)).2) := doP_at (c := 1) h
theorem doP_0 {f : BoxV → Int × BoxV} {P : PostV} (h : P.other 0 = true) : doP f P 0 = ((f (P.box 0)).1, P.put 0 (f (P.box 0)).2) := doP_at (c := 0) h
theorem put_box {P : PostV} {c : Nat} {X : BoxV} : (P.put c X).box c = X := if_pos rfl
theorem once_new : OnceOk (newP 0 2) (newP 1 2) [] 0 [] [] 0 :=
  ⟨newP_ok (by omega) rfl, newP_ok (by omega) rfl, rfl, rfl, rfl, rfl, rfl, rfl, Nat.le_refl _, rfl, Nat.le_refl _, Nat.le_refl _, by simp, by simp, Nat.le_refl _, Nat.le_refl _, Nat.le_refl _⟩
theorem OnceOk.step {PA PB : PostV} {pu : List Msg} {nt : Nat} {way : List Pk} {acks : List Int} {k : Nat} (h : OnceOk PA PB pu nt way acks k) : OnceOk PA PB pu nt way acks (k + 1) :=
  { h with lp := Nat.le_succ_of_le h.lp, lw := Nat.le_succ_of_le h.lw, la := Nat.le_succ_of_le h.la }
theorem OnceOk.push_no {PA PB : PostV} {pu : List Msg} {nt : Nat} {way : List Pk} {acks : List Int} {k : Nat} (h : OnceOk PA PB pu nt way acks k) (m : Msg) (hz : (doP (fun X => pushX X m) PA 1).1 ≠ 0) : OnceOk (doP (fun X => pushX X m) PA 1).2 PB pu nt way acks (k + 1) := by
  rw [Go.Proofs.Ytfnneghddndeiaa.push_no hz]; exact h.step
theorem OnceOk.push {PA PB : PostV} {pu : List Msg} {nt : Nat} {way : List Pk} {acks : List Int} {k : Nat} (h : OnceOk PA PB pu nt way acks k) (m : Msg) (hk : k < 4294967296) (hz : (doP (fun X => pushX X m) PA 1).1 = 0) :
    OnceOk (doP (fun X => pushX X m) PA 1).2 PB (pu ++ [m]) nt way acks (k + 1) := by
  obtain ⟨-, hl⟩ := push_yes hz
  have hl : (PA.box 1).wait.length < 32 := hl
  have e : doP (fun X => pushX X m) PA 1 = (0, PA.put 1 ⟨(PA.box 1).wait ++ [m], (PA.box 1).given + 1, (PA.box 1).last⟩) := by
    rw [doP_1 h.oA]
    unfold pushX
    rw [if_neg (by omega)]
  rw [e]
  have hB := h.okA.box 1
  have hg := h.given
  have hwl := h.wl
  have hlp := h.lp
  have bx : (PA.put 1 ⟨(PA.box 1).wait ++ [m], (PA.box 1).given + 1, (PA.box 1).last⟩).box 1 = ⟨(PA.box 1).wait ++ [m], (PA.box 1).given + 1, (PA.box 1).last⟩ := put_box
  refine ⟨put_ok h.okA ⟨by simp; omega, by simp; omega, by show _ + 1 ≤ _; omega, hB.l0, hB.l1⟩, h.okB, h.a0, h.a1, h.b0, h.b1, ?_, ?_, ?_, h.last, ?_, ?_, fun p hp => ?_, h.acksOk, ?_, Nat.le_succ_of_le h.lw, Nat.le_succ_of_le h.la⟩
  · show ((PA.put 1 _).box 1).given = _
    rw [bx]; simp; omega
  · show ((PA.put 1 _).box 1).wait = _
    rw [bx]
    simp only [List.length_append, List.length_cons, List.length_nil]
    rw [show pu.length + (0 + 1) - ((PA.box 1).wait.length + (0 + 1)) = pu.length - (PA.box 1).wait.length from by omega, List.drop_append_of_le_length (by omega), ← h.wait]
  · show ((PA.put 1 _).box 1).wait.length ≤ _
    rw [bx]; simp; omega
  · have := h.tk; simp; omega
  · show _ ≤ _ + ((PA.put 1 _).box 1).wait.length
    rw [bx]; have := h.dn; simp; omega
  · obtain ⟨h1, h2, h3⟩ := h.wayOk p hp
    refine ⟨h1, by simp; omega, ?_⟩
    rw [List.getElem?_append_left (by omega)]; exact h3
  · simp; omega
theorem OnceOk.packets {PA PB : PostV} {pu : List Msg} {nt : Nat} {way : List Pk} {acks : List Int} {k : Nat} (h : OnceOk PA PB pu nt way acks k) : packets PA = pkBox PA 1 := by
  unfold Go.Proofs.Ytfnneghddndeiaa.packets
  rw [h.a1, show (2 : Int).toNat = 1 + 1 from rfl, carK_yes (by exact h.oA), show carK PA 1 = [] from ?_]
  · simp [pkL]
  · rw [show 1 = 0 + 1 from rfl, carK_no (by simp [PostV.other, h.a0])]; rfl
theorem OnceOk.packet {PA PB : PostV} {pu : List Msg} {nt : Nat} {way : List Pk} {acks : List Int} {k : Nat} (h : OnceOk PA PB pu nt way acks k) {j : Nat} (hj : j < (Go.Proofs.Ytfnneghddndeiaa.packets PA).length) :
    (Go.Proofs.Ytfnneghddndeiaa.packets PA)[j].num = (pu.length : Int) - (PA.box 1).wait.length + 1 + j ∧ j < (PA.box 1).wait.length ∧ pu[pu.length - (PA.box 1).wait.length + j]? = some (Go.Proofs.Ytfnneghddndeiaa.packets PA)[j].m := by
  have e := h.packets
  have hj2 : j < (PA.box 1).wait.length := by rw [e, pkBox_len] at hj; exact hj
  have e2 : (Go.Proofs.Ytfnneghddndeiaa.packets PA)[j]? = some ⟨PA.self, 1, doneX (PA.box 1) + 1 + j, (PA.box 1).wait[j]⟩ := by
    rw [e]; simp [pkBox, hj2]
  rw [List.getElem?_eq_getElem hj] at e2
  rw [Option.some.inj e2]
  refine ⟨?_, hj2, ?_⟩
  · show doneX _ + 1 + _ = _; unfold doneX; rw [h.given]
  · have hw := h.wait
    have : (PA.box 1).wait[j]? = pu[pu.length - (PA.box 1).wait.length + j]? := by conv => lhs; rw [hw]; rw [List.getElem?_drop]
    rw [← this, List.getElem?_eq_getElem hj2]
theorem OnceOk.send {PA PB : PostV} {pu : List Msg} {nt : Nat} {way : List Pk} {acks : List Int} {k : Nat} (h : OnceOk PA PB pu nt way acks k) {j : Nat} (hj : j < (Go.Proofs.Ytfnneghddndeiaa.packets PA).length) :
    OnceOk PA PB pu nt (way ++ [(Go.Proofs.Ytfnneghddndeiaa.packets PA)[j]]) acks (k + 1) := by
  obtain ⟨p1, p2, p3⟩ := h.packet hj
  have hwl := h.wl
  refine { h.step with wayOk := fun p hp => ?_, lw := by have := h.lw; simp; omega }
  rcases List.mem_append.1 hp with hp | hp
  · exact h.wayOk p hp
  · obtain rfl := List.mem_singleton.1 hp
    refine ⟨by rw [p1]; omega, by rw [p1]; omega, ?_⟩
    rw [show (Go.Proofs.Ytfnneghddndeiaa.packets PA)[j].num.toNat - 1 = pu.length - (PA.box 1).wait.length + j from by rw [p1]; omega]
    exact p3
theorem OnceOk.lose {PA PB : PostV} {pu : List Msg} {nt : Nat} {way way' : List Pk} {acks : List Int} {k : Nat} (h : OnceOk PA PB pu nt way acks k) (hs : ∀ p ∈ way', p ∈ way) (hl : way'.length ≤ way.length) : OnceOk PA PB pu nt way' acks (k + 1) :=
  { h.step with wayOk := fun p hp => h.wayOk p (hs p hp), lw := by have := h.lw; omega }
theorem took_res {PA PB : PostV} {pu : List Msg} {nt : Nat} {way : List Pk} {acks : List Int} {k : Nat} (h : OnceOk PA PB pu nt way acks k) (q : Int) :
    ((doP (fun X => tookX X q) PB 0).1 = 0 ↔ q = nt + 1) ∧ (q ≠ nt + 1 → (doP (fun X => tookX X q) PB 0).1 = 6 ∧ (doP (fun X => tookX X q) PB 0).2 = PB) := by
  have hl := h.last
  rw [doP_0 h.oB]
  unfold tookX
  dsimp only
  by_cases hq : q = nt + 1
  · rw [if_neg (by omega)]
    exact ⟨⟨fun _ => hq, fun _ => rfl⟩, fun hn => absurd hq hn⟩
  · rw [if_pos (by omega)]
    exact ⟨⟨fun h => (by cases h), fun h => absurd h hq⟩, fun _ => ⟨rfl, PostV.put_same⟩⟩
theorem OnceOk.took {PA PB : PostV} {pu : List Msg} {nt : Nat} {way : List Pk} {acks : List Int} {k : Nat} (h : OnceOk PA PB pu nt way acks k) (hn : nt < pu.length) : OnceOk PA (doP (fun X => tookX X (nt + 1)) PB 0).2 pu (nt + 1) way acks k := by
  have hl := h.last
  have e : (doP (fun X => tookX X (nt + 1)) PB 0).2 = PB.put 0 ⟨(PB.box 0).wait, (PB.box 0).given, nt + 1⟩ := by
    rw [doP_0 h.oB]
    unfold tookX
    dsimp only
    rw [if_neg (by omega)]
  rw [e]
  have hB := h.okB.box 0
  have := (h.okA.box 1).hi
  have := h.given
  exact { h with okB := put_ok h.okB ⟨hB.len, hB.le, hB.hi, by show (0 : Int) ≤ nt + 1; omega, by show (nt : Int) + 1 ≤ _; omega⟩, b0 := h.b0, b1 := h.b1, last := by show ((PB.put 0 _).box 0).last = _; rw [put_box]; rfl, tk := hn, dn := by have := h.dn; omega, acksOk := fun x hx => ⟨(h.acksOk x hx).1, by have := (h.acksOk x hx).2; omega⟩ }
theorem OnceOk.ackd {PA PB : PostV} {pu : List Msg} {nt : Nat} {way : List Pk} {acks : List Int} {k : Nat} (h : OnceOk PA PB pu nt way acks k) (x : Int) (h0 : 0 ≤ x) (h1 : x ≤ nt) :
    OnceOk (doP (fun X => ackX X x) PA 1).2 PB pu nt way acks k ∧ ((doP (fun X => ackX X x) PA 1).1 = 0 ∨ (doP (fun X => ackX X x) PA 1).1 = 6) ∧ (((doP (fun X => ackX X x) PA 1).2.box 1).wait.length = min (PA.box 1).wait.length (pu.length - x.toNat)) := by
  have hg := h.given
  have htk := h.tk
  have hwl := h.wl
  rw [doP_1 h.oA]
  unfold ackX doneX
  dsimp only
  rw [if_neg (by omega)]
  by_cases hd : x ≤ (PA.box 1).given - (PA.box 1).wait.length
  · rw [if_pos hd]
    refine ⟨by rw [PostV.put_same]; exact h, .inr rfl, ?_⟩
    show ((PA.put 1 (PA.box 1)).box 1).wait.length = _
    rw [put_box]; omega
  · rw [if_neg hd]
    obtain ⟨j, hj⟩ : ∃ j : Nat, x - ((PA.box 1).given - (PA.box 1).wait.length) = j := ⟨(x - ((PA.box 1).given - (PA.box 1).wait.length)).toNat, by omega⟩
    rw [hj, Int.toNat_natCast]
    have hlen : ((PA.box 1).wait.drop j).length = (PA.box 1).wait.length - j := List.length_drop
    have hB := h.okA.box 1
    refine ⟨{ h with okA := put_ok h.okA ⟨by rw [hlen]; have := hB.len; omega, by show ((List.length _ : Nat) : Int) ≤ (PA.box 1).given; rw [hlen]; have := hB.le; omega, hB.hi, hB.l0, hB.l1⟩, a0 := h.a0, a1 := h.a1, given := by show ((PA.put 1 _).box 1).given = _; rw [put_box]; exact hg, wait := ?_, wl := by show ((PA.put 1 _).box 1).wait.length ≤ _; rw [put_box]; show List.length _ ≤ _; rw [hlen]; omega, dn := by show _ ≤ _ + ((PA.put 1 _).box 1).wait.length; rw [put_box]; show _ ≤ _ + List.length _; rw [hlen]; have := h.dn; omega }, .inl rfl, ?_⟩
    · show ((PA.put 1 _).box 1).wait = pu.drop (pu.length - ((PA.put 1 _).box 1).wait.length)
      rw [put_box]
      show (PA.box 1).wait.drop j = pu.drop (pu.length - List.length ((PA.box 1).wait.drop j))
      rw [hlen]
      conv => lhs; rw [h.wait]
      rw [List.drop_drop]
      congr 1
      omega
    · show ((PA.put 1 _).box 1).wait.length = _
      rw [put_box]
      show List.length _ = _
      rw [hlen]; omega
theorem acks_snoc {acks : List Int} {nt : Nat} (h : ∀ x ∈ acks, 0 ≤ x ∧ x ≤ (nt : Int)) : ∀ x ∈ acks ++ [(nt : Int)], 0 ≤ x ∧ x ≤ (nt : Int) := fun x hx => by
  rcases List.mem_append.1 hx with hx | hx
  · exact h x hx
  · obtain rfl := List.mem_singleton.1 hx; omega
theorem OnceOk.acked {PA PB : PostV} {pu : List Msg} {nt : Nat} {way : List Pk} {acks : List Int} {k : Nat} (h : OnceOk PA PB pu nt way acks k) : OnceOk PA PB pu nt way (acks ++ [(nt : Int)]) (k + 1) :=
  { h.step with acksOk := acks_snoc h.acksOk, la := by have := h.la; simp; omega }
end Go.Proofs.Ytfnneghddndeiaa
