/- POST 8: Packets as a contract; no post: Packets, Clone, Same; a post that is known. -/
import Derived.Test.YtfnneghddndeiaaPost7
import Derived.Deep.QuietTactic
import Derived.BigQuiet
namespace Go.Proofs.Ytfnneghddndeiaa
open Go.RowKit Go.Lib Go.Tk Go.Shelf Go.Maps
attribute [-go_sem] loadCellsFrom
theorem packets_any (base : Nat) (A : PostA) (P : PostV) (w : World) (h : PostIn w base A P) (ok : PostOk P) :
    Calls Try.prog 9 #[.pointer (some ⟨A.pb, 0, none⟩)] w fun e w' => ∃ v, e = .returned v ∧ w'.ownsRow w.heap.size 50 16 v (packets P).length (cellsL encPk (packets P)) ∧ Below w.heap.size w w' :=
  callsIn_wide.1 (packets_in Fence.wide 3 trivial trivial trivial rfl (Nat.le_refl _) base A P ok w h)
structure PostAt (w : World) (S : Nat → Prop) (pb : Nat) (P : PostV) : Prop where
  ex : ∃ (base : Nat) (A : PostA), A.pb = pb ∧ base ≤ w.heap.size ∧ PostIn w base A P ∧ PostOk P ∧ ∀ k, postFoot A P k → S k
def since (S : Nat → Prop) (w : World) : Nat → Prop := fun k => S k ∨ w.heap.size ≤ k
theorem PostAt.fr {S T : Nat → Prop} {w w' : World} {pb : Nat} {P : PostV} (h : PostAt w S pb P) (f : Fr T w w') (hn : ∀ k, S k → ¬ T k) : PostAt w' S pb P := by
  obtain ⟨base, A, e, hb, hI, ok, hf⟩ := h.ex
  exact ⟨base, A, e, Nat.le_trans hb f.size, hI.fr f (fun k hk => hn k (hf k hk)), ok, hf⟩
theorem PostAt.kept {S : Nat → Prop} {w w' : World} {pb : Nat} {P : PostV} (h : PostAt w S pb P) (hb : Below w.heap.size w w') : PostAt w' S pb P := h.fr (fr_below (fun _ => False) hb) (fun _ _ f => f)
theorem PostAt.mono {S T : Nat → Prop} {w : World} {pb : Nat} {P : PostV} (h : PostAt w S pb P) (hs : ∀ k, S k → T k) : PostAt w T pb P := by
  obtain ⟨base, A, e, hb, hI, ok, hf⟩ := h.ex
  exact ⟨base, A, e, hb, hI, ok, fun k hk => hs k (hf k hk)⟩
def AtDid (w : World) (S : Nat → Prop) (pb : Nat) (r : Int × PostV) (e : Ending) (w' : World) : Prop := e = .returned (.int .i64 r.1) ∧ PostAt w' (since S w) pb r.2 ∧ Fr S w w'
theorem PostDid.at {w w' : World} {S : Nat → Prop} {base : Nat} {A : PostA} {P : PostV} {r : Int × PostV} {e : Ending} (h : PostDid w base A P r e w') (hb : base ≤ w.heap.size) (ok : PostOk r.2) (hf : ∀ k, postFoot A P k → S k) : AtDid w S A.pb r e w' := by
  obtain ⟨he, A', hI, hfoot, hpb, hfr⟩ := h
  exact ⟨he, ⟨base, A', hpb, Nat.le_trans hb hfr.size, hI, ok, fun k hk => (hfoot k hk).imp (hf k) id⟩, hfr.mono (fun b _ hk => hf b hk)⟩
theorem doP_ok {P : PostV} {f : BoxV → Int × BoxV} {c : Int} (ok : PostOk P) (h : ∀ X, BoxOk X → BoxOk (f X).2) : PostOk (doP f P c).2 := by
  unfold doP
  split
  · exact put_ok ok (h _ (ok.box _))
  · exact ok
theorem push_at (S : Nat → Prop) (pb : Nat) (P : PostV) (c : Int) (m : Msg) (w : World) (h : PostAt w S pb P) (h0 : 0 ≤ c) (h1 : c ≤ 255) (hg : P.other c = true → (P.box c.toNat).given < 4294967296) :
    Calls Try.prog 8 #[.pointer (some ⟨pb, 0, none⟩), .int .u8 c, msgAgg m] w (AtDid w S pb (doP (fun X => pushX X m) P c)) := by
  obtain ⟨base, A, rfl, hb, hI, ok, hf⟩ := h.ex
  refine (push_any base A P c m w hI ok h0 h1 hb).mono (fun e w' hd => hd.at hb ?_ hf)
  unfold doP
  split
  · rename_i ho; exact put_ok ok (pushX_ok (ok.box _) (hg ho))
  · exact ok
theorem ack_at (S : Nat → Prop) (pb : Nat) (P : PostV) (c k : Int) (w : World) (h : PostAt w S pb P) (h0 : 0 ≤ c) (h1 : c ≤ 255) (k0 : 0 ≤ k) (k1 : k ≤ 18446744073709551615) :
    Calls Try.prog 12 #[.pointer (some ⟨pb, 0, none⟩), .int .u8 c, .int .u64 k] w (AtDid w S pb (doP (fun X => ackX X k) P c)) := by
  obtain ⟨base, A, rfl, hb, hI, ok, hf⟩ := h.ex
  exact (ack_any base A P c k w hI ok h0 h1 k0 k1).mono (fun e w' hd => hd.at hb (doP_ok ok (fun _ h => ackX_ok h)) hf)
theorem took_at (S : Nat → Prop) (pb : Nat) (P : PostV) (c k : Int) (w : World) (h : PostAt w S pb P) (h0 : 0 ≤ c) (h1 : c ≤ 255) (k0 : 0 ≤ k) (k1 : k ≤ 18446744073709551615) :
    Calls Try.prog 10 #[.pointer (some ⟨pb, 0, none⟩), .int .u8 c, .int .u64 k] w (AtDid w S pb (doP (fun X => tookX X k) P c)) := by
  obtain ⟨base, A, rfl, hb, hI, ok, hf⟩ := h.ex
  exact (took_any base A P c k w hI ok h0 h1 k0 k1).mono (fun e w' hd => hd.at hb (doP_ok ok (fun _ h => tookX_ok h k0 k1)) hf)
theorem len_at (S : Nat → Prop) (pb : Nat) (P : PostV) (c : Int) (w : World) (h : PostAt w S pb P) (h0 : 0 ≤ c) (h1 : c ≤ 255) :
    Calls Try.prog 14 #[.pointer (some ⟨pb, 0, none⟩), .int .u8 c] w fun e w' => e = .returned (.int .i64 (lenP P c)) ∧ Below w.heap.size w w' := by
  obtain ⟨base, A, rfl, hb, hI, ok, hf⟩ := h.ex
  exact len_any base A P c w hI h0 h1
theorem given_at (S : Nat → Prop) (pb : Nat) (P : PostV) (c : Int) (w : World) (h : PostAt w S pb P) (h0 : 0 ≤ c) (h1 : c ≤ 255) :
    Calls Try.prog 13 #[.pointer (some ⟨pb, 0, none⟩), .int .u8 c] w fun e w' => e = .returned (.int .u64 (givenP P c)) ∧ Below w.heap.size w w' := by
  obtain ⟨base, A, rfl, hb, hI, ok, hf⟩ := h.ex
  exact given_any base A P c w hI h0 h1
theorem last_at (S : Nat → Prop) (pb : Nat) (P : PostV) (c : Int) (w : World) (h : PostAt w S pb P) (h0 : 0 ≤ c) (h1 : c ≤ 255) :
    Calls Try.prog 11 #[.pointer (some ⟨pb, 0, none⟩), .int .u8 c] w fun e w' => e = .returned (.int .u64 (lastP P c)) ∧ Below w.heap.size w w' := by
  obtain ⟨base, A, rfl, hb, hI, ok, hf⟩ := h.ex
  exact last_any base A P c w hI h0 h1
theorem packets_at (S : Nat → Prop) (pb : Nat) (P : PostV) (w : World) (h : PostAt w S pb P) :
    Calls Try.prog 9 #[.pointer (some ⟨pb, 0, none⟩)] w fun e w' => ∃ v, e = .returned v ∧ w'.ownsRow w.heap.size 50 16 v (packets P).length (cellsL encPk (packets P)) ∧ Below w.heap.size w w' := by
  obtain ⟨base, A, rfl, hb, hI, ok, hf⟩ := h.ex
  exact packets_any base A P w hI ok
theorem newP_ok {self n : Int} (h0 : 0 ≤ self) (hn : newE self n = 0) : PostOk (newP self n) := by
  unfold newE at hn
  split at hn
  · cases hn
  · exact ⟨by show 2 ≤ n; omega, by show n ≤ 8; omega, h0, by show self < n; omega, fun _ => ⟨by simp [newP], by simp [newP], by simp [newP], by simp [newP], by simp [newP]⟩⟩
theorem new_at (self n : Int) (w : World) (h0 : 0 ≤ self) (h1 : self ≤ 255) (hn : newE self n = 0) :
    Calls Try.prog 7 #[.int .u8 self, .int .i64 n] w fun e w' => ∃ pb, e = .returned (.tuple #[.pointer (some ⟨pb, 0, none⟩), .int .i64 0]) ∧ PostAt w' (fun k => w.heap.size ≤ k) pb (newP self n) ∧ Below w.heap.size w w' :=
  (new_yes self n w h0 h1 hn).mono (fun _ _ ⟨A, he, hI, hb⟩ => ⟨A.pb, he, ⟨_, A, rfl, hb.size, hI, newP_ok h0 hn, fun _ hk => (hI.foot hk).1⟩, hb⟩)
def Mine (w0 w : World) (pb : Nat) (P : PostV) : Prop := PostAt w (fun k => w0.heap.size ≤ k) pb P ∧ Below w0.heap.size w0 w
theorem Mine.did {w0 w w' : World} {pb : Nat} {P : PostV} {r : Int × PostV} {e : Ending} (h : Mine w0 w pb P) (hd : AtDid w (fun k => w0.heap.size ≤ k) pb r e w') : e = .returned (.int .i64 r.1) ∧ Mine w0 w' pb r.2 := by
  obtain ⟨he, hp, hf⟩ := hd
  exact ⟨he, hp.mono (fun k hk => hk.elim id (fun h1 => Nat.le_trans h.2.size h1)), h.2.trans (hf.below (fun _ _ h => h) h.2.size)⟩
theorem Mine.kept {w0 w w' : World} {pb : Nat} {P : PostV} (h : Mine w0 w pb P) (hb : Below w.heap.size w w') : Mine w0 w' pb P := ⟨h.1.kept hb, h.2.trans (hb.mono h.2.size)⟩
theorem PostAt.now {S : Nat → Prop} {w : World} {pb : Nat} {P : PostV} (h : PostAt w S pb P) : PostAt w (fun k => S k ∧ k < w.heap.size) pb P := by
  obtain ⟨base, A, e, hb, hI, ok, hf⟩ := h.ex
  exact ⟨base, A, e, hb, hI, ok, fun k hk => ⟨hf k hk, (hI.foot hk).2⟩⟩
def msg0 (k : Int) : Msg := ⟨k, 0, 0, 0, 0, 0, 0, 0, 0, 0, 0, 0⟩
def kP0 : PostV := newP 0 3
def kP1 : PostV := (doP (fun X => pushX X (msg0 1)) kP0 1).2
def kP2 : PostV := (doP (fun X => pushX X (msg0 5)) kP1 1).2
def kP3 : PostV := (doP (fun X => pushX X (msg0 0)) kP2 0).2
def kP4 : PostV := (doP (fun X => ackX X 1) kP3 1).2
def kP5 : PostV := (doP (fun X => ackX X 1) kP4 1).2
def kP6 : PostV := (doP (fun X => tookX X 2) kP5 2).2
def kP7 : PostV := (doP (fun X => tookX X 1) kP6 2).2
theorem kE : (doP (fun X => pushX X (msg0 1)) kP0 1).1 = 0 ∧ (doP (fun X => pushX X (msg0 5)) kP1 1).1 = 0 ∧ (doP (fun X => pushX X (msg0 0)) kP2 0).1 = 1 ∧ (doP (fun X => ackX X 1) kP3 1).1 = 0 ∧ (doP (fun X => ackX X 1) kP4 1).1 = 6 ∧ (doP (fun X => tookX X 2) kP5 2).1 = 6 ∧ (doP (fun X => tookX X 1) kP6 2).1 = 0 := ⟨rfl, rfl, rfl, rfl, rfl, rfl, rfl⟩
theorem kL : lenP kP4 1 = 1 ∧ lastP kP7 2 = 1 := ⟨rfl, rfl⟩
theorem kK : packets kP3 = [⟨0, 1, 1, msg0 1⟩, ⟨0, 1, 2, msg0 5⟩] := by rfl
theorem kG : (kP0.box (Int.toNat 1)).given = 0 ∧ (kP1.box (Int.toNat 1)).given = 1 ∧ (kP2.box (Int.toNat 0)).given = 0 := ⟨rfl, rfl, rfl⟩
set_option maxRecDepth 100000 in
set_option maxHeartbeats 2000000 in
theorem wakes19 (w0 : World) : Calls Try.prog 6 #[] w0 fun e w' => e = .returned (.bool true) ∧ Below w0.heap.size w0 w' := by
  go_enter Try.func6, Try.ntmps6
  go_wp2_with fail
  refine (new_at 0 3 _ (by omega) (by omega) rfl).mono ?_
  rintro e w1 ⟨pb, rfl, hp, hb⟩
  have M1 : Hid (Mine w0 w1 pb kP0) := hid ⟨hp, hb⟩
  clear hp hb
  go_wp2_with fail
  refine (push_at _ pb kP0 1 (msg0 1) _ M1.out.1 (by omega) (by omega) (fun _ => by rw [kG.1]; omega)).mono ?_
  rintro e w2 hd
  obtain ⟨rfl, h⟩ := M1.out.did hd
  have M2 : Hid (Mine w0 w2 pb kP1) := hid h
  rw [kE.1]
  clear hd h M1
  go_wp2_with fail
  refine (push_at _ pb kP1 1 (msg0 5) _ M2.out.1 (by omega) (by omega) (fun _ => by rw [kG.2.1]; omega)).mono ?_
  rintro e w3 hd
  obtain ⟨rfl, h⟩ := M2.out.did hd
  have M3 : Hid (Mine w0 w3 pb kP2) := hid h
  rw [kE.2.1]
  clear hd h M2
  go_wp2_with fail
  refine (push_at _ pb kP2 0 (msg0 0) _ M3.out.1 (by omega) (by omega) (fun _ => by rw [kG.2.2]; omega)).mono ?_
  rintro e w4 hd
  obtain ⟨rfl, h⟩ := M3.out.did hd
  have M4 : Hid (Mine w0 w4 pb kP3) := hid h
  rw [kE.2.2.1]
  clear hd h M3
  go_wp2_with fail
  refine (packets_at _ pb kP3 _ M4.out.1).mono ?_
  rintro e w5 ⟨v, rfl, hr, hb⟩
  rw [kK] at hr
  have N5 : Hid (PostAt w5 (fun k => w0.heap.size ≤ k ∧ k < w4.heap.size) pb kP3) := hid (M4.out.1.now.kept hb)
  have B5 : Hid (Below w0.heap.size w0 w5) := hid (M4.out.kept hb).2
  have R5 := hid hr
  clear hr hb M4
  go_wp2_with fail
  refine (ack_at _ pb kP3 1 1 _ N5.out (by omega) (by omega) (by omega) (by omega)).mono ?_
  rintro e w6 ⟨rfl, hp, hf⟩
  rw [kE.2.2.2.1]
  have M6 : Hid (Mine w0 w6 pb kP4) := hid ⟨hp.mono (fun k hk => hk.elim (fun h => h.1) (fun h => Nat.le_trans B5.out.size h)), B5.out.trans (hf.below (fun _ _ h => h.1) B5.out.size)⟩
  have hr := ownsRow_fr R5.out hf (fun g hg h => by have := (R5.out.lt g hg).1; have := h.2; omega)
  obtain ⟨a, cc, rfl, hrow, -, -⟩ := own_slice hr
  obtain ⟨b', off', rfl, hcell⟩ := hrow.thing encPk_len (k := 1) (by decide) (by decide)
  have k3 := hcell 3 (by omega)
  have k1 := hcell 1 (by omega)
  simp only [Nat.one_mul] at k3 k1
  change _ = some (Value.int .u64 2) at k3
  change _ = some (Value.int .u8 1) at k1
  clear hcell hrow hr hf hp B5 R5 N5
  go_wp2_with fail
  refine (len_at _ pb kP4 1 _ M6.out.1 (by omega) (by omega)).mono ?_
  rintro e w7 ⟨rfl, hb⟩
  rw [kL.1]
  have M7 : Hid (Mine w0 w7 pb kP4) := hid (M6.out.kept hb)
  clear hb M6
  go_wp2_with fail
  refine (ack_at _ pb kP4 1 1 _ M7.out.1 (by omega) (by omega) (by omega) (by omega)).mono ?_
  rintro e w8 hd
  obtain ⟨rfl, h⟩ := M7.out.did hd
  have M8 : Hid (Mine w0 w8 pb kP5) := hid h
  rw [kE.2.2.2.2.1]
  clear hd h M7
  go_wp2_with fail
  refine (took_at _ pb kP5 2 2 _ M8.out.1 (by omega) (by omega) (by omega) (by omega)).mono ?_
  rintro e w9 hd
  obtain ⟨rfl, h⟩ := M8.out.did hd
  have M9 : Hid (Mine w0 w9 pb kP6) := hid h
  rw [kE.2.2.2.2.2.1]
  clear hd h M8
  go_wp2_with fail
  refine (took_at _ pb kP6 2 1 _ M9.out.1 (by omega) (by omega) (by omega) (by omega)).mono ?_
  rintro e w10 hd
  obtain ⟨rfl, h⟩ := M9.out.did hd
  have M10 : Hid (Mine w0 w10 pb kP7) := hid h
  rw [kE.2.2.2.2.2.2]
  clear hd h M9
  go_wp2_with fail
  refine (last_at _ pb kP7 2 _ M10.out.1 (by omega) (by omega)).mono ?_
  rintro e w11 ⟨rfl, hb⟩
  rw [kL.2]
  have M11 : Hid (Below w0.heap.size w0 w11) := hid (M10.out.kept hb).2
  clear hb M10
  go_wp2
  go_ret
  exact ⟨rfl, M11.out⟩
end Go.Proofs.Ytfnneghddndeiaa
