/- CODEC: what is read, in plain words: bytes and records are each other's. -/
import Derived.Test.YtfcjmpgbohgoeaaM38
namespace Go.Proofs.Ytfcjmpgbohgoeaa
open Go.RowKit Go.Lib Go.Tk Go.Shelf Go.Vc
set_option linter.unusedVariables false
set_option linter.unusedSimpArgs false

def By (bs : List Int) : Prop := ∀ x ∈ bs, 0 ≤ x ∧ x ≤ 255
theorem pow8 (m : Nat) : (2 : Int) ^ (8 * (m + 1)) = 2 ^ (8 * m) * 256 := by
 rw [show 8 * (m + 1) = 8 * m + 8 from by omega, Int.pow_add]; rfl
theorem pow256 : ∀ n : Nat, (256 : Int) ^ n = 2 ^ (8 * n)
 | 0 => rfl
 | n + 1 => by rw [Int.pow_succ, pow256 n, pow8]
theorem valOf_beHi {v : Int} {n : Nat} (h0 : 0 ≤ v) (h1 : v < 256 ^ n) : ∀ i, i ≤ n → valOf (beHi v n i) = v / 2 ^ (8 * (n - i))
 | 0, _ => by
  show (0 : Int) = _
  rw [Nat.sub_zero, ← pow256, Int.ediv_eq_zero_of_lt h0 h1]
 | i + 1, h => by
  unfold beHi
  rw [valOf_snoc, valOf_beHi h0 h1 i (by omega)]
  obtain ⟨m, hm⟩ : ∃ m, m = n - 1 - i := ⟨_, rfl⟩
  rw [show n - i = m + 1 from by omega, show n - (i + 1) = m from by omega, ← hm]
  unfold byteAt
  rw [pow8, ← Int.ediv_ediv_of_nonneg (Int.pow_nonneg (by decide))]
  omega
theorem valOf_be {v : Int} {n : Nat} (h0 : 0 ≤ v) (h1 : v < 256 ^ n) : valOf (be v n) = v := by
 unfold be
 rw [valOf_beHi h0 h1 n (Nat.le_refl _), Nat.sub_self]
 simp
theorem valOf_inj : ∀ (n : Nat) (l l' : List Int), l.length = n → l'.length = n → By l → By l' → valOf l = valOf l' → l = l'
 | 0, l, l', h1, h2, _, _, _ => by rw [List.length_eq_zero_iff.1 h1, List.length_eq_zero_iff.1 h2]
 | n + 1, l, l', h1, h2, b1, b2, he => by
  obtain ⟨r, c, rfl⟩ : ∃ r c, l = r ++ [c] := ⟨l.dropLast, l.getLast (by intro e; subst e; simp at h1), (List.dropLast_concat_getLast _).symm⟩
  obtain ⟨r', c', rfl⟩ : ∃ r c, l' = r ++ [c] := ⟨l'.dropLast, l'.getLast (by intro e; subst e; simp at h2), (List.dropLast_concat_getLast _).symm⟩
  rw [valOf_snoc, valOf_snoc] at he
  have k1 := b1 c (by simp)
  have k2 := b2 c' (by simp)
  have e1 : c = c' := by omega
  have e2 := valOf_inj n r r' (by simpa using h1) (by simpa using h2) (fun x hx => b1 x (by simp [hx])) (fun x hx => b2 x (by simp [hx])) (by omega)
  rw [e1, e2]
theorem be_valOf {l : List Int} (h : By l) : be (valOf l) l.length = l :=
 have hv := valOf_in l.length l rfl h
 valOf_inj l.length _ _ (be_len _ _) rfl (be_in _ _) h (valOf_be hv.1 hv.2)

/-- f reads what E lays, and nothing else -/
structure Takes {α : Type} (f : WS → α → α × WS) (z : α) (Ok : α → Prop) (E : α → List Int) : Prop where
 back : ∀ x, Ok x → ∀ rest, f ⟨false, E x ++ rest⟩ z = (x, ⟨false, rest⟩)
 fwd : ∀ σ, σ.bad = false → By σ.bs → (f σ z).2.bad = false → Ok (f σ z).1 ∧ σ.bs = E (f σ z).1 ++ (f σ z).2.bs
 bad : ∀ σ, σ.bad = true → (f σ z).2.bad = true
theorem By.rest {a b : List Int} (h : By (a ++ b)) : By b := fun x hx => h x (List.mem_append_right _ hx)
theorem Takes.weaken {α : Type} {f : WS → α → α × WS} {z : α} {Ok Ok' : α → Prop} {E E' : α → List Int} (h : Takes f z Ok E) (ho : ∀ x, Ok x ↔ Ok' x) (he : ∀ x, Ok x → E x = E' x) : Takes f z Ok' E' where
 back x hx rest := by rw [← he x ((ho x).2 hx)]; exact h.back x ((ho x).2 hx) rest
 fwd σ h1 h2 h3 := by
  obtain ⟨k1, k2⟩ := h.fwd σ h1 h2 h3
  exact ⟨(ho _).1 k1, by rw [← he _ k1]; exact k2⟩
 bad := h.bad
def both {α β : Type} (f : WS → α → α × WS) (g : WS → β → β × WS) : WS → α × β → (α × β) × WS := fun σ p => (((f σ p.1).1, (g (f σ p.1).2 p.2).1), (g (f σ p.1).2 p.2).2)
theorem Takes.both {α β : Type} {f : WS → α → α × WS} {g : WS → β → β × WS} {z : α} {y : β} {Ok : α → Prop} {Ok' : β → Prop} {E : α → List Int} {E' : β → List Int} (h : Takes f z Ok E) (k : Takes g y Ok' E') :
  Takes (both f g) (z, y) (fun p => Ok p.1 ∧ Ok' p.2) (fun p => E p.1 ++ E' p.2) where
 back p hp rest := by
  unfold Go.Proofs.Ytfcjmpgbohgoeaa.both
  rw [List.append_assoc, h.back p.1 hp.1, k.back p.2 hp.2]
 fwd σ h1 h2 h3 := by
  have h3 : (g (f σ z).2 y).2.bad = false := h3
  have hb : (f σ z).2.bad = false := by
   cases hb : (f σ z).2.bad with
   | false => rfl
   | true => have := k.bad _ hb; rw [h3] at this; cases this
  obtain ⟨k1, k2⟩ := h.fwd σ h1 h2 hb
  obtain ⟨k3, k4⟩ := k.fwd (f σ z).2 hb (by rw [k2] at h2; exact h2.rest) h3
  refine ⟨⟨k1, k3⟩, ?_⟩
  show σ.bs = (E (f σ z).1 ++ E' (g (f σ z).2 y).1) ++ (g (f σ z).2 y).2.bs
  rw [List.append_assoc, ← k4]; exact k2
 bad σ hb := k.bad _ (h.bad σ hb)
def via {α β : Type} (mk : α → β) (un : β → α) (f : WS → α → α × WS) : WS → β → β × WS := fun σ x => (mk (f σ (un x)).1, (f σ (un x)).2)
theorem Takes.via {α β : Type} {f : WS → α → α × WS} {z : α} {Ok : α → Prop} {E : α → List Int} (mk : α → β) (un : β → α) (h1 : ∀ x, mk (un x) = x) (h2 : ∀ p, un (mk p) = p) (h : Takes f z Ok E) : Takes (via mk un f) (mk z) (fun x => Ok (un x)) (fun x => E (un x)) where
 back x hx rest := by
  unfold Go.Proofs.Ytfcjmpgbohgoeaa.via
  rw [h2, h.back _ hx]
  show (mk (un x), _) = _
  rw [h1]
 fwd σ k1 k2 k3 := by
  unfold Go.Proofs.Ytfcjmpgbohgoeaa.via at k3 ⊢
  simp only [h2] at k3 ⊢
  exact h.fwd σ k1 k2 k3
 bad σ hb := by
  unfold Go.Proofs.Ytfcjmpgbohgoeaa.via
  rw [h2]
  exact h.bad σ hb
theorem num_takes (z : Int) (n : Nat) : Takes (fun σ x => num tk σ x n) z (fun v => 0 ≤ v ∧ v < 256 ^ n) (fun v => be v n) where
 back v hv rest := by
  show (if (be v n ++ rest).length < n then _ else _) = _
  rw [if_neg (by rw [List.length_append, be_len]; omega)]
  rw [List.take_left' (be_len v n), List.drop_left' (be_len v n), valOf_be hv.1 hv.2]
 fwd σ h1 h2 h3 := by
  have e : num tk σ z n = if σ.bs.length < n then (0, ⟨true, []⟩) else (valOf (σ.bs.take n), ⟨σ.bad, σ.bs.drop n⟩) := rfl
  simp only [e] at h3 ⊢
  split at h3
  · cases h3
  ·
   rename_i hl
   rw [if_neg hl]
   have hb : By (σ.bs.take n) := fun x hx => h2 x (List.mem_of_mem_take hx)
   have hn : (σ.bs.take n).length = n := by rw [List.length_take]; omega
   have hv := valOf_in n _ hn hb
   refine ⟨hv, ?_⟩
   have := be_valOf hb
   rw [hn] at this
   show σ.bs = be (valOf (σ.bs.take n)) n ++ σ.bs.drop n
   rw [this, List.take_append_drop]
 bad σ hb := by
  show (if σ.bs.length < n then ((0 : Int), (⟨true, []⟩ : WS)) else (valOf (σ.bs.take n), ⟨σ.bad, σ.bs.drop n⟩)).2.bad = true
  split
  · rfl
  · exact hb
structure Fits (k : IntKind) (n : Nat) : Prop where
 a : ∀ x, In k x → 0 ≤ IntKind.u64.wrap x ∧ IntKind.u64.wrap x < 256 ^ n
 b : ∀ v, 0 ≤ v → v < 256 ^ n → In k (k.wrap v) ∧ IntKind.u64.wrap (k.wrap v) = v
theorem fit_u8 : Fits .u8 1 := ⟨fun x h => by simp only [In] at h; rw [IntKind.wrap_u64]; simp; omega, fun v h0 h1 => by simp at h1; simp only [In]; rw [IntKind.wrap_u64, IntKind.wrap_u8]; omega⟩
theorem fit_u16 : Fits .u16 2 := ⟨fun x h => by simp only [In] at h; rw [IntKind.wrap_u64]; simp; omega, fun v h0 h1 => by simp at h1; simp only [In]; rw [IntKind.wrap_u64, IntKind.wrap_u16]; omega⟩
theorem fit_u32 : Fits .u32 4 := ⟨fun x h => by simp only [In] at h; rw [IntKind.wrap_u64]; simp; omega, fun v h0 h1 => by simp at h1; simp only [In]; rw [IntKind.wrap_u64, IntKind.wrap_u32]; omega⟩
theorem fit_i64 : Fits .i64 8 := ⟨fun x h => by simp only [In] at h; rw [IntKind.wrap_u64]; simp; omega, fun v h0 h1 => by simp at h1; simp only [In]; rw [IntKind.wrap_u64, IntKind.wrap_i64]; omega⟩
theorem fld_takes {k : IntKind} {n : Nat} (F : Fits k n) (z : Int) : Takes (fun σ x => fld k tk σ x n) z (In k) (fun x => encN x n) where
 back x hx rest := by
  have h := (num_takes (IntKind.u64.wrap z) n).back _ (F.a x hx) rest
  show (k.wrap (num tk _ (IntKind.u64.wrap z) n).1, (num tk _ (IntKind.u64.wrap z) n).2) = _
  unfold encN
  rw [h]
  show (k.wrap (IntKind.u64.wrap x), _) = _
  rw [back_wrap hx]
 fwd σ h1 h2 h3 := by
  obtain ⟨k1, k2⟩ := (num_takes (IntKind.u64.wrap z) n).fwd σ h1 h2 h3
  obtain ⟨k3, k4⟩ := F.b _ k1.1 k1.2
  refine ⟨k3, ?_⟩
  show σ.bs = be (IntKind.u64.wrap (k.wrap (num tk σ (IntKind.u64.wrap z) n).1)) n ++ _
  rw [k4]; exact k2
 bad σ hb := (num_takes (IntKind.u64.wrap z) n).bad σ hb
theorem u64_takes (z : Int) : Takes (fun σ x => num tk σ x 8) z (In .u64) (fun x => encN x 8) :=
 (num_takes z 8).weaken (fun x => by simp only [In]; constructor <;> (intro h; simp at h ⊢; omega)) (fun x hx => by unfold encN; rw [wr_u64 (by simp at hx; omega)])

theorem tick_takes : Takes (tickF tk) ⟨0, 0⟩ TickIn tickBy :=
 (Takes.via (fun p : Int × Int => (⟨p.1, p.2⟩ : TickV)) (fun t => (t.c, t.r)) (fun _ => rfl) (fun _ => rfl) ((fld_takes fit_u8 0).both (u64_takes 0))).weaken (fun t => ⟨fun h => ⟨h.1, h.2⟩, fun h => ⟨h.c, h.r⟩⟩) (fun _ _ => rfl)
theorem leg_takes : Takes (legF tk) ⟨0, 0, 0⟩ LegIn legBy :=
 (Takes.via (fun p : Int × Int × Int => (⟨p.1, p.2.1, p.2.2⟩ : LegV)) (fun t => (t.c, t.f, t.x)) (fun _ => rfl) (fun _ => rfl) ((fld_takes fit_u8 0).both ((fld_takes fit_u16 0).both (fld_takes fit_u32 0)))).weaken (fun t => ⟨fun h => ⟨h.1, h.2.1, h.2.2⟩, fun h => ⟨h.c, h.f, h.x⟩⟩) (fun _ _ => rfl)

theorem eachL_back {α : Type} {f : WS → α → α × WS} {z : α} {Ok : α → Prop} {E : α → List Int} (h : Takes f z Ok E) : ∀ (xs : List α), (∀ x ∈ xs, Ok x) → ∀ rest, eachL f ⟨false, (xs.map E).flatten ++ rest⟩ (List.replicate xs.length z) = (xs, ⟨false, rest⟩)
 | [], _, rest => rfl
 | x :: xs, hx, rest => by
  show ((f _ z).1 :: (eachL f (f _ z).2 _).1, (eachL f (f _ z).2 _).2) = _
  rw [List.map_cons, List.flatten_cons, List.append_assoc, h.back x (hx x List.mem_cons_self), eachL_back h xs (fun y hy => hx y (List.mem_cons_of_mem _ hy))]
theorem eachL_bad {α : Type} {f : WS → α → α × WS} {z : α} {Ok : α → Prop} {E : α → List Int} (h : Takes f z Ok E) : ∀ (n : Nat) (σ : WS), σ.bad = true → (eachL f σ (List.replicate n z)).2.bad = true
 | 0, σ, hb => hb
 | n + 1, σ, hb => eachL_bad h n _ (h.bad σ hb)
theorem eachL_fwd {α : Type} {f : WS → α → α × WS} {z : α} {Ok : α → Prop} {E : α → List Int} (h : Takes f z Ok E) : ∀ (n : Nat) (σ : WS), σ.bad = false → By σ.bs → (eachL f σ (List.replicate n z)).2.bad = false →
  (eachL f σ (List.replicate n z)).1.length = n ∧ (∀ x ∈ (eachL f σ (List.replicate n z)).1, Ok x) ∧ σ.bs = ((eachL f σ (List.replicate n z)).1.map E).flatten ++ (eachL f σ (List.replicate n z)).2.bs
 | 0, σ, _, _, _ => ⟨rfl, (fun x hx => by cases hx), rfl⟩
 | n + 1, σ, h1, h2, h3 => by
  have h3 : (eachL f (f σ z).2 (List.replicate n z)).2.bad = false := h3
  have hb : (f σ z).2.bad = false := by
   cases hb : (f σ z).2.bad with
   | false => rfl
   | true => have := eachL_bad h n _ hb; rw [h3] at this; cases this
  obtain ⟨k1, k2⟩ := h.fwd σ h1 h2 hb
  obtain ⟨k3, k4, k5⟩ := eachL_fwd h n (f σ z).2 hb (by rw [k2] at h2; exact h2.rest) h3
  refine ⟨?_, fun x hx => ?_, ?_⟩
  ·
   show ((f σ z).1 :: (eachL f (f σ z).2 (List.replicate n z)).1).length = n + 1
   rw [List.length_cons, k3]
  ·
   rcases List.mem_cons.1 hx with rfl | hx
   · exact k1
   · exact k4 x hx
  ·
   show σ.bs = (((f σ z).1 :: (eachL f (f σ z).2 (List.replicate n z)).1).map E).flatten ++ (eachL f (f σ z).2 (List.replicate n z)).2.bs
   rw [List.map_cons, List.flatten_cons, List.append_assoc, ← k5]; exact k2
theorem list_takes {α : Type} {f : WS → α → α × WS} {z : α} {Ok : α → Prop} {E : α → List Int} (h : Takes f z Ok E) (most : Nat) (hm : most ≤ 255) :
  Takes (fun σ xs => listF f z tk σ xs most) [] (fun l => l.length ≤ most ∧ ∀ x ∈ l, Ok x) (fun l => lenBy l.length ++ (l.map E).flatten) where
 back l hl rest := by
  have h1 := (num_takes ((0 : Nat) : Int) 1).back (l.length : Int) ⟨by omega, by simp; omega⟩ ((l.map E).flatten ++ rest)
  have e : listN tk ⟨false, lenBy l.length ++ ((l.map E).flatten ++ rest)⟩ 0 most = (l.length, ⟨false, (l.map E).flatten ++ rest⟩) := by
   unfold listN lenBy
   have h1 : num tk ⟨false, be (l.length : Int) 1 ++ ((l.map E).flatten ++ rest)⟩ ((0 : Nat) : Int) 1 = _ := h1
   rw [h1, if_neg (by omega)]
   show ((l.length : Int).toNat, _) = _
   rw [Int.toNat_natCast]
  show eachL f (listN tk _ 0 most).2 ([] ++ List.replicate ((listN tk _ 0 most).1 - 0) z) = _
  rw [List.append_assoc, e, List.nil_append, Nat.sub_zero]
  exact eachL_back h l hl.2 rest
 fwd σ h1 h2 h3 := by
  have eL : listF f z tk σ [] most = eachL f (listN tk σ 0 most).2 (List.replicate (listN tk σ 0 most).1 z) := by
   show eachL f (listN tk σ 0 most).2 ([] ++ List.replicate ((listN tk σ 0 most).1 - 0) z) = _
   rw [List.nil_append, Nat.sub_zero]
  have h3 : (listF f z tk σ [] most).2.bad = false := h3
  show ((listF f z tk σ [] most).1.length ≤ most ∧ ∀ x ∈ (listF f z tk σ [] most).1, Ok x) ∧ σ.bs = (lenBy (listF f z tk σ [] most).1.length ++ ((listF f z tk σ [] most).1.map E).flatten) ++ (listF f z tk σ [] most).2.bs
  rw [eL] at h3 ⊢
  have hb : (listN tk σ 0 most).2.bad = false := by
   cases hb : (listN tk σ 0 most).2.bad with
   | false => rfl
   | true => have := eachL_bad h (listN tk σ 0 most).1 _ hb; rw [h3] at this; cases this
  by_cases hg : (num tk σ ((0 : Nat) : Int) 1).1 > (most : Int)
  · rw [listN_bad hg] at hb; cases hb
  ·
   have e := listN_of hg
   rw [e] at h3 hb ⊢
   have hb : (num tk σ ((0 : Nat) : Int) 1).2.bad = false := hb
   obtain ⟨k1, k2⟩ := (num_takes ((0 : Nat) : Int) 1).fwd σ h1 h2 hb
   have k1 : 0 ≤ (num tk σ ((0 : Nat) : Int) 1).1 ∧ (num tk σ ((0 : Nat) : Int) 1).1 < 256 ^ 1 := k1
   have k2 : σ.bs = be (num tk σ ((0 : Nat) : Int) 1).1 1 ++ (num tk σ ((0 : Nat) : Int) 1).2.bs := k2
   obtain ⟨k3, k4, k5⟩ := eachL_fwd h (num tk σ ((0 : Nat) : Int) 1).1.toNat (num tk σ ((0 : Nat) : Int) 1).2 hb (by rw [k2] at h2; exact h2.rest) h3
   refine ⟨⟨?_, k4⟩, ?_⟩
   ·
    show (eachL f (num tk σ ((0 : Nat) : Int) 1).2 (List.replicate (num tk σ ((0 : Nat) : Int) 1).1.toNat z)).1.length ≤ most
    rw [k3]; omega
   ·
    show σ.bs = (lenBy (eachL f (num tk σ ((0 : Nat) : Int) 1).2 (List.replicate (num tk σ ((0 : Nat) : Int) 1).1.toNat z)).1.length ++ _) ++ _
    rw [k3, List.append_assoc, ← k5]
    unfold lenBy
    rw [Int.toNat_of_nonneg k1.1]
    exact k2
 bad σ hb := by
  show (eachL f (listN tk σ 0 most).2 ([] ++ List.replicate ((listN tk σ 0 most).1 - 0) z)).2.bad = true
  rw [List.nil_append, Nat.sub_zero]
  refine eachL_bad h _ _ ?_
  by_cases hg : (num tk σ ((0 : Nat) : Int) 1).1 > (most : Int)
  · rw [listN_bad hg]
  · rw [listN_of hg]; exact (num_takes ((0 : Nat) : Int) 1).bad σ hb
theorem flat_enc : ∀ (l : List Int), By l → (l.map fun x => encN x 1).flatten = l
 | [], _ => rfl
 | x :: l, h => by
  have hx := h x List.mem_cons_self
  have : encN x 1 = [x] := by
   unfold encN
   rw [wr_u64 (by omega)]
   show [x / 2 ^ (8 * 0) % 256] = [x]
   simp; omega
  rw [List.map_cons, List.flatten_cons, flat_enc l (fun y hy => h y (List.mem_cons_of_mem _ hy)), this]; rfl
theorem text_takes : Takes (textF tk) ByteArray.empty (fun s => s.size ≤ 32) textBy where
 back s hs rest := by
  have h := (list_takes (fld_takes fit_u8 0) 32 (by decide)).back (bytesOf s) ⟨by rw [bytesOf_len]; exact hs, fun x hx => bytesOf_in s x hx⟩ rest
  unfold textF
  have h : listF (byteF tk) 0 tk ⟨false, textBy s ++ rest⟩ (bytesOf ByteArray.empty) 32 = (bytesOf s, ⟨false, rest⟩) := by
   rw [show bytesOf ByteArray.empty = [] from rfl]
   rw [flat_enc _ (bytesOf_in s), bytesOf_len] at h
   exact h
  rw [h]
  show (ofBytes (bytesOf s), _) = _
  rw [ofBytes_bytesOf]
 fwd σ h1 h2 h3 := by
  have h3 : (listF (byteF tk) 0 tk σ [] 32).2.bad = false := h3
  obtain ⟨⟨k1, k2⟩, k3⟩ := (list_takes (fld_takes fit_u8 0) 32 (by decide)).fwd σ h1 h2 h3
  have k1 : (listF (byteF tk) 0 tk σ [] 32).1.length ≤ 32 := k1
  have k2 : By (listF (byteF tk) 0 tk σ [] 32).1 := k2
  have k3 : σ.bs = (lenBy (listF (byteF tk) 0 tk σ [] 32).1.length ++ ((listF (byteF tk) 0 tk σ [] 32).1.map fun x => encN x 1).flatten) ++ (listF (byteF tk) 0 tk σ [] 32).2.bs := k3
  show (ofBytes (listF (byteF tk) 0 tk σ [] 32).1).size ≤ 32 ∧ σ.bs = textBy (ofBytes (listF (byteF tk) 0 tk σ [] 32).1) ++ (listF (byteF tk) 0 tk σ [] 32).2.bs
  unfold textBy
  rw [← bytesOf_len, bytesOf_ofBytes k2]
  rw [flat_enc _ k2] at k3
  exact ⟨k1, k3⟩
 bad σ hb := (list_takes (fld_takes fit_u8 0) 32 (by decide)).bad σ hb
theorem tax_takes : Takes (taxF tk) ⟨ByteArray.empty, 0⟩ (fun t => t.code.size ≤ 32 ∧ In .i64 t.amt) taxBy :=
 (Takes.via (fun p : ByteArray × Int => (⟨p.1, p.2⟩ : TaxV)) (fun t => (t.code, t.amt)) (fun _ => rfl) (fun _ => rfl) (text_takes.both (fld_takes fit_i64 0))).weaken (fun t => Iff.rfl) (fun _ _ => rfl)
end Go.Proofs.Ytfcjmpgbohgoeaa
