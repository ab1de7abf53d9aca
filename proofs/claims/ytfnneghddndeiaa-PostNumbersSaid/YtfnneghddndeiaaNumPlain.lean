/- POST, PostNumbers, plain: what was said to whom, and what waits. -/
import Derived.Test.YtfnneghddndeiaaPost8
namespace Go.Proofs.Ytfnneghddndeiaa
open Go.RowKit Go.Lib Go.Tk

def saidPut (S : Nat → List Msg) (c : Nat) (m : Msg) : Nat → List Msg := fun i => if i = c then S i ++ [m] else S i
structure NumOk (P : PostV) (S : Nat → List Msg) (k : Nat) : Prop where
  ok : PostOk P
  given : ∀ c : Nat, P.other c = true → (P.box c).given = (S c).length
  wait : ∀ c : Nat, P.other c = true → (P.box c).wait = (S c).drop ((S c).length - (P.box c).wait.length)
  no : ∀ c : Nat, P.other c = false → S c = []
  le : ∀ c, (S c).length ≤ k
theorem doP_same {f : BoxV → Int × BoxV} {P : PostV} {c : Int} : (doP f P c).2.self = P.self ∧ (doP f P c).2.n = P.n ∧ (∀ d, (doP f P c).2.other d = P.other d) := by
  unfold doP
  split
  · exact ⟨rfl, rfl, fun _ => rfl⟩
  · exact ⟨rfl, rfl, fun _ => rfl⟩
theorem newP_num {self n : Int} (h0 : 0 ≤ self) (hn : newE self n = 0) : NumOk (newP self n) (fun _ => []) 0 :=
  ⟨newP_ok h0 hn, fun _ _ => rfl, fun _ _ => rfl, fun _ _ => rfl, fun _ => Nat.le_refl _⟩
theorem NumOk.step {P : PostV} {S : Nat → List Msg} {k : Nat} (h : NumOk P S k) : NumOk P S (k + 1) := ⟨h.ok, h.given, h.wait, h.no, fun c => Nat.le_succ_of_le (h.le c)⟩
/-- something is done with a box that leaves what was given, and of what waits the end -/
theorem NumOk.did {P : PostV} {S : Nat → List Msg} {k : Nat} (h : NumOk P S k) (f : BoxV → Int × BoxV) (c : Int) (hc : 0 ≤ c) (hok : ∀ X, BoxOk X → BoxOk (f X).2) (hg : ∀ X, BoxOk X → (f X).2.given = X.given)
    (hw : ∀ X, BoxOk X → ∃ j, (f X).2.wait = X.wait.drop j) : NumOk (doP f P c).2 S (k + 1) := by
  obtain ⟨n, rfl⟩ : ∃ n : Nat, c = n := ⟨c.toNat, by omega⟩
  unfold doP
  by_cases ho : P.other n = true
  · rw [if_pos ho]
    have hB := h.ok.box n
    refine ⟨put_ok h.ok (hok _ hB), fun d hd => ?_, fun d hd => ?_, fun d hd => h.no d hd, fun d => Nat.le_succ_of_le (h.le d)⟩
    · have hd' : P.other d = true := hd
      show (if d = (n : Int).toNat then _ else _ : BoxV).given = _
      by_cases e : d = n
      · subst e; rw [if_pos (by simp)]; rw [Int.toNat_natCast, hg _ hB]; exact h.given d hd'
      · rw [if_neg (by simpa using e)]; exact h.given d hd'
    · have hd' : P.other d = true := hd
      have key : ∀ X : BoxV, (if d = (n : Int).toNat then X else P.box d) = (P.put (n : Int).toNat X).box d := fun _ => rfl
      by_cases e : d = n
      · subst e
        obtain ⟨j, hj⟩ := hw _ hB
        have hw0 := h.wait d hd'
        have : (P.put (d : Int).toNat (f (P.box (d : Int).toNat)).2).box d = (f (P.box d)).2 := by
          show (if d = (d : Int).toNat then _ else _) = _
          rw [if_pos (by simp), Int.toNat_natCast]
        rw [this, hj]
        have hle : (P.box d).wait.length ≤ (S d).length := by
          have := h.given d hd'; have := hB.le; omega
        rw [List.length_drop]
        conv => lhs; rw [hw0]
        rw [List.drop_drop]
        rcases Nat.lt_or_ge j (P.box d).wait.length with hl | hl
        · congr 1; omega
        · rw [List.drop_eq_nil_of_le (by omega), List.drop_eq_nil_of_le (by omega)]
      · have : (P.put (n : Int).toNat (f (P.box (n : Int).toNat)).2).box d = P.box d := by
          show (if d = (n : Int).toNat then _ else _) = _
          rw [if_neg (by simpa using e)]
        rw [this]; exact h.wait d hd'
  · rw [if_neg ho]; exact h.step
theorem NumOk.ack {P : PostV} {S : Nat → List Msg} {k : Nat} (h : NumOk P S k) (c q : Int) (hc : 0 ≤ c) : NumOk (doP (fun X => ackX X q) P c).2 S (k + 1) :=
  h.did (fun X => ackX X q) c hc (fun X hX => ackX_ok hX) (fun X _ => by
    show (ackX X q).2.given = _
    unfold ackX
    split
    · rfl
    · split <;> rfl) (fun X _ => by
    show ∃ j, (ackX X q).2.wait = _
    unfold ackX
    split
    · exact ⟨0, rfl⟩
    · split
      · exact ⟨0, rfl⟩
      · exact ⟨_, rfl⟩)
theorem NumOk.took {P : PostV} {S : Nat → List Msg} {k : Nat} (h : NumOk P S k) (c q : Int) (hc : 0 ≤ c) (h0 : 0 ≤ q) (h1 : q ≤ 18446744073709551615) : NumOk (doP (fun X => tookX X q) P c).2 S (k + 1) :=
  h.did (fun X => tookX X q) c hc (fun X hX => tookX_ok hX h0 h1) (fun X _ => by show (tookX X q).2.given = _; unfold tookX; split <;> rfl) (fun X _ => by show ∃ j, (tookX X q).2.wait = _; unfold tookX; split <;> exact ⟨0, rfl⟩)
theorem push_yes {P : PostV} {c : Int} {m : Msg} (h : (doP (fun X => pushX X m) P c).1 = 0) : P.other c = true ∧ (P.box c.toNat).wait.length < 32 := by
  unfold doP pushX at h
  split at h
  · rename_i ho
    refine ⟨ho, ?_⟩
    rcases Nat.lt_or_ge (P.box c.toNat).wait.length 32 with h1 | h1
    · exact h1
    · dsimp only at h; rw [if_pos h1] at h; cases h
  · cases h
theorem push_no {P : PostV} {c : Int} {m : Msg} (h : (doP (fun X => pushX X m) P c).1 ≠ 0) : (doP (fun X => pushX X m) P c).2 = P := by
  unfold doP pushX at h ⊢
  split
  · rename_i ho
    rw [if_pos ho] at h
    dsimp only at h ⊢
    split
    · exact PostV.put_same
    · rename_i h2; rw [if_neg h2] at h; exact absurd rfl h
  · rfl
theorem NumOk.push {P : PostV} {S : Nat → List Msg} {k : Nat} (h : NumOk P S k) (c : Int) (m : Msg) (hk : k < 4294967296) (h1 : (doP (fun X => pushX X m) P c).1 = 0) : NumOk (doP (fun X => pushX X m) P c).2 (saidPut S c.toNat m) (k + 1) := by
  obtain ⟨ho, hl⟩ := push_yes h1
  have hc : 0 ≤ c := by
    simp only [PostV.other, Bool.and_eq_true, decide_eq_true_eq] at ho
    exact ho.1.1
  obtain ⟨n, rfl⟩ : ∃ n : Nat, c = n := ⟨c.toNat, by omega⟩
  rw [Int.toNat_natCast] at hl ⊢
  have e2 : (doP (fun X => pushX X m) P n).2 = P.put n ⟨(P.box n).wait ++ [m], (P.box n).given + 1, (P.box n).last⟩ := by
    unfold doP pushX
    rw [if_pos ho]
    dsimp only
    rw [Int.toNat_natCast, if_neg (by omega)]
  have hB := h.ok.box n
  have hg := h.given n ho
  have hw := h.wait n ho
  have hk2 := h.le n
  have hle : (P.box n).wait.length ≤ (S n).length := by have := hB.le; omega
  rw [e2]
  have hb : ∀ d, (P.put n ⟨(P.box n).wait ++ [m], (P.box n).given + 1, (P.box n).last⟩).box d = if d = n then ⟨(P.box n).wait ++ [m], (P.box n).given + 1, (P.box n).last⟩ else P.box d := fun _ => rfl
  have hs : ∀ d, saidPut S n m d = if d = n then S d ++ [m] else S d := fun _ => rfl
  refine ⟨put_ok h.ok ⟨by simp; omega, by simp; omega, by show _ + 1 ≤ _; omega, hB.l0, hB.l1⟩, fun d hd => ?_, fun d hd => ?_, fun d hd => ?_, fun d => ?_⟩
  · have hd' : P.other d = true := hd
    rw [hb, hs]
    by_cases e : d = n
    · subst e; rw [if_pos rfl, if_pos rfl]; simp; omega
    · rw [if_neg e, if_neg e]; exact h.given d hd'
  · have hd' : P.other d = true := hd
    rw [hb, hs]
    by_cases e : d = n
    · subst e
      rw [if_pos rfl, if_pos rfl]
      simp only [List.length_append, List.length_cons, List.length_nil]
      rw [show (S d).length + (0 + 1) - ((P.box d).wait.length + (0 + 1)) = (S d).length - (P.box d).wait.length from by omega]
      rw [List.drop_append_of_le_length (by omega), ← hw]
    · rw [if_neg e, if_neg e]; exact h.wait d hd'
  · have hd' : P.other d = false := hd
    rw [hs]
    by_cases e : d = n
    · subst e; rw [ho] at hd'; cases hd'
    · rw [if_neg e]; exact h.no d hd'
  · rw [hs]
    have := h.le d
    split
    · simp; omega
    · omega
theorem num_given {P : PostV} {S : Nat → List Msg} {k : Nat} (h : NumOk P S k) (c : Nat) : givenP P c = (S c).length := by
  unfold givenP
  cases ho : P.other c with
  | true => rw [if_pos rfl, Int.toNat_natCast]; exact h.given c ho
  | false => rw [if_neg (by decide), h.no c ho]; rfl
/-- the j-th packet of a carrier -/
theorem packets_get {P : PostV} {c : Nat} (ho : P.other c = true) {t : Nat} (ht : t < (P.box c).wait.length) :
    ∃ h : (pkL P (carK P c)).length + t < (packets P).length, (packets P)[(pkL P (carK P c)).length + t] = ⟨P.self, c, doneX (P.box c) + 1 + t, (P.box c).wait[t]⟩ := by
  have hc : c < P.n.toNat := by
    simp only [PostV.other, Bool.and_eq_true, decide_eq_true_eq] at ho
    omega
  obtain ⟨j, hj⟩ : ∃ j, P.n.toNat = c + 1 + j := ⟨P.n.toNat - (c + 1), by omega⟩
  obtain ⟨r, hr⟩ := carK_pre P (k := c + 1) j
  have e : packets P = pkL P (carK P c) ++ (pkBox P c ++ pkL P r) := by
    unfold packets
    rw [hj, ← hr, carK_yes ho]
    simp [pkL]
  have hl : t < (pkBox P c).length := by rw [pkBox_len]; exact ht
  have hlen : (pkL P (carK P c)).length + t < (packets P).length := by rw [e]; simp; omega
  refine ⟨hlen, ?_⟩
  have : (packets P)[(pkL P (carK P c)).length + t]? = some ⟨P.self, c, doneX (P.box c) + 1 + t, (P.box c).wait[t]⟩ := by
    rw [e, List.getElem?_append_right (by omega), Nat.add_sub_cancel_left, List.getElem?_append_left hl]
    simp [pkBox, ht]
  rw [List.getElem?_eq_getElem hlen] at this
  exact Option.some.inj this
theorem pkL_step {P : PostV} (c : Nat) : (pkL P (carK P (c + 1))).length = (pkL P (carK P c)).length + if P.other c = true then (P.box c).wait.length else 0 := by
  cases ho : P.other c with
  | true => rw [carK_yes ho, pkL_snoc, List.length_append, pkBox_len, if_pos rfl]
  | false => rw [carK_no ho, if_neg (by decide)]; rfl
/-- which of what was said it is -/
theorem num_wait {P : PostV} {S : Nat → List Msg} {k : Nat} (h : NumOk P S k) {c : Nat} (ho : P.other c = true) {t : Nat} (ht : t < (P.box c).wait.length) :
    ∃ h : (S c).length - (P.box c).wait.length + t < (S c).length, (S c)[(S c).length - (P.box c).wait.length + t] = (P.box c).wait[t] := by
  have hle : (P.box c).wait.length ≤ (S c).length := by
    have := h.given c ho; have := (h.ok.box c).le; omega
  have hl : (S c).length - (P.box c).wait.length + t < (S c).length := by omega
  refine ⟨hl, ?_⟩
  have := h.wait c ho
  have h2 : (P.box c).wait[t]? = (S c)[(S c).length - (P.box c).wait.length + t]? := by
    conv => lhs; rw [this]
    rw [List.getElem?_drop]
  rw [List.getElem?_eq_getElem ht, List.getElem?_eq_getElem hl] at h2
  exact (Option.some.inj h2).symm
end Go.Proofs.Ytfnneghddndeiaa
