/- CODEC: the reader reads what the walk takes. -/
import Derived.Test.YtfcjmpgbohgoeaaCr3
import Derived.Test.YtfcjmpgbohgoeaaM40
namespace Go.Proofs.Ytfcjmpgbohgoeaa
open Go.RowKit Go.Lib Go.Tk Go.Shelf Go.Vc Go.Sx
set_option linter.unusedVariables false
set_option linter.unusedSimpArgs false
/-- two readings agree as long as nothing is wrong -/
structure Agr {α : Type} (f g : WS → α × WS) : Prop where
  run : ∀ σ, By σ.bs → σ.bad = false → By (f σ).2.bs ∧ (((f σ).2.bad = false ∧ g σ = f σ) ∨ ((f σ).2.bad = true ∧ (g σ).2.bad = true))
  stickF : ∀ σ, σ.bad = true → (f σ).2.bad = true
  stickG : ∀ σ, σ.bad = true → (g σ).2.bad = true
  byF : ∀ σ, By σ.bs → By (f σ).2.bs
def bnd2 {α β : Type} (f : WS → α × WS) (F : α → WS → β × WS) : WS → β × WS := fun σ => F (f σ).1 (f σ).2
theorem Agr.bind {α β : Type} {f g : WS → α × WS} {F G : α → WS → β × WS} (h : Agr f g) (H : ∀ x, Agr (F x) (G x)) : Agr (bnd2 f F) (bnd2 g G) where
  run σ hb h0 := by
    unfold bnd2
    obtain ⟨h1, ⟨h2, h3⟩ | ⟨h2, h3⟩⟩ := h.run σ hb h0
    · rw [h3]; exact (H _).run _ h1 h2
    · exact ⟨(H _).byF _ h1, .inr ⟨(H _).stickF _ h2, (H _).stickG _ h3⟩⟩
  stickF σ h0 := (H _).stickF _ (h.stickF σ h0)
  stickG σ h0 := (H _).stickG _ (h.stickG σ h0)
  byF σ hb := (H _).byF _ (h.byF σ hb)
theorem Agr.pure {α : Type} (x : α) : Agr (fun σ => (x, σ)) (fun σ => (x, σ)) := ⟨fun σ hb h0 => ⟨hb, .inl ⟨h0, rfl⟩⟩, fun _ h => h, fun _ h => h, fun _ h => h⟩
theorem Agr.congr {α : Type} {f g f' g' : WS → α × WS} (h : Agr f g) (hf : f' = f) (hg : g' = g) : Agr f' g' := by subst hf; subst hg; exact h
theorem rtake_f {σ : WS} {n : Nat} (h : rfails σ n) : rtake σ n = ⟨true, σ.bs⟩ := if_pos h
theorem rtake_t {σ : WS} {n : Nat} (h : ¬ rfails σ n) : rtake σ n = ⟨false, σ.bs.drop n⟩ := if_neg h
theorem rbytes_t {σ : WS} {n : Nat} (h : ¬ rfails σ n) : rbytes σ n = σ.bs.take n := if_neg h
theorem num_f {σ : WS} {v : Int} {n : Nat} (h : σ.bs.length < n) : num tk σ v n = (0, ⟨true, []⟩) := if_pos h
theorem num_t {σ : WS} {v : Int} {n : Nat} (h : ¬ σ.bs.length < n) : num tk σ v n = (valOf (σ.bs.take n), ⟨σ.bad, σ.bs.drop n⟩) := if_neg h
theorem rf_t {σ : WS} {n : Nat} (h : σ.bs.length < n) : rfails σ n := by unfold rfails; simp [h]
theorem rf_f {σ : WS} {n : Nat} (h : ¬ σ.bs.length < n) (h0 : σ.bad = false) : ¬ rfails σ n := by unfold rfails; simp [h0]; omega
theorem rtake_sticky (σ : WS) (n : Nat) (h : σ.bad = true) : (rtake σ n).bad = true := by
  rw [rtake_f (by unfold rfails; simp [h])]
theorem num_sticky (σ : WS) (v : Int) (n : Nat) (h : σ.bad = true) : (num tk σ v n).2.bad = true := by
  by_cases hl : σ.bs.length < n
  · rw [num_f hl]
  · rw [num_t hl]; exact h
/-- a number -/
theorem agr_num64 (v : Int) (n : Nat) (hn : n ≤ 8) : Agr (fun σ => (rval σ n, rtake σ n)) (num tk · v n) where
  run σ hb h0 := by
    refine ⟨rtake_by hb n, ?_⟩
    by_cases h : σ.bs.length < n
    · right
      show (rtake σ n).bad = true ∧ (num tk σ v n).2.bad = true
      rw [rtake_f (rf_t h), num_f h]
      exact ⟨rfl, rfl⟩
    · left
      show (rtake σ n).bad = false ∧ num tk σ v n = (rval σ n, rtake σ n)
      unfold rval
      rw [rtake_t (rf_f h h0), num_t h, rbytes_t (rf_f h h0), h0]
      exact ⟨rfl, rfl⟩
  stickF σ h0 := rtake_sticky σ n h0
  stickG σ h0 := num_sticky σ _ n h0
  byF σ hb := rtake_by hb n
theorem agr_num (k : IntKind) (v : Int) (n : Nat) (hn : n ≤ 8) : Agr (fun σ => (k.wrap (rval σ n), rtake σ n)) (fld k tk · v n) :=
  ((agr_num64 (IntKind.u64.wrap v) n hn).bind fun x => Agr.pure (k.wrap x)).congr rfl rfl
/-- a small number is what it is -/
theorem agr_small (k : IntKind) (v : Int) (n : Nat) (hn : n ≤ 8) (hk : ∀ x : Int, 0 ≤ x ∧ x < 256 ^ n → k.wrap x = x) : Agr (fun σ => (rval σ n, rtake σ n)) (fld k tk · v n) := by
  have h := agr_num k v n hn
  refine ⟨fun σ hb h0 => ?_, h.stickF, h.stickG, h.byF⟩
  have := h.run σ hb h0
  simp only [hk _ (rval_in hb n)] at this
  exact this
theorem agr_tick (t : TickV) : Agr rtick (tickF tk · t) :=
  ((agr_small .u8 t.c 1 (by omega) (fun x hx => wr_u8 (by omega))).bind fun c => (agr_num64 t.r 8 (by omega)).bind fun r => Agr.pure (⟨c, r⟩ : TickV)).congr rfl rfl
theorem agr_leg (l : LegV) : Agr rleg (legF tk · l) :=
  ((agr_small .u8 l.c 1 (by omega) (fun x hx => wr_u8 (by omega))).bind fun c => (agr_small .u16 l.f 2 (by omega) (fun x hx => wr_u16 (by omega))).bind fun f => (agr_small .u32 l.x 4 (by omega) (fun x hx => wr_u32 (by omega))).bind fun x => Agr.pure (⟨c, f, x⟩ : LegV)).congr rfl rfl
/-- so many -/
theorem agr_many (most : Nat) : Agr (rmany · most) (listN tk · 0 most) where
  run σ hb h0 := by
    have h := (agr_num64 0 1 (by omega)).run σ hb h0
    refine ⟨rmany_by hb most, ?_⟩
    rcases h.2 with ⟨h1, h2⟩ | ⟨h1, h2⟩
    · have e1 : (num tk σ (0 : Nat) 1) = (rval σ 1, rtake σ 1) := h2
      by_cases hm : rval σ 1 > most
      · right
        have e2 : rmany σ most = (0, ⟨true, (rtake σ 1).bs⟩) := if_pos hm
        have e3 : listN tk σ 0 most = (0, ⟨true, (num tk σ (0 : Nat) 1).2.bs⟩) := if_pos (by rw [e1]; exact hm)
        rw [e2, e3]; exact ⟨rfl, rfl⟩
      · left
        have e2 : rmany σ most = ((rval σ 1).toNat, rtake σ 1) := if_neg hm
        have e3 : listN tk σ 0 most = ((num tk σ (0 : Nat) 1).1.toNat, (num tk σ (0 : Nat) 1).2) := if_neg (by rw [e1]; exact hm)
        rw [e2, e3, e1]; exact ⟨h1, rfl⟩
    · refine .inr ⟨?_, ?_⟩
      · unfold rmany
        split
        · rfl
        · exact h1
      · unfold listN
        split
        · rfl
        · exact h2
  stickF σ h0 := by
    unfold rmany
    split
    · rfl
    · exact rtake_sticky σ 1 h0
  stickG σ h0 := by
    unfold listN
    split
    · rfl
    · exact num_sticky σ _ 1 h0
  byF σ hb := rmany_by hb most
/-- one behind the other -/
def readN {α : Type} (f : WS → α × WS) : Nat → WS → List α × WS
  | 0, σ => ([], σ)
  | n + 1, σ => ((f σ).1 :: (readN f n (f σ).2).1, (readN f n (f σ).2).2)
theorem readN_each {α : Type} (f : WS → α → α × WS) (z : α) : ∀ n σ, eachL f σ (List.replicate n z) = readN (f · z) n σ
  | 0, σ => rfl
  | n + 1, σ => by rw [List.replicate_succ]; unfold eachL readN; rw [readN_each f z n]
theorem readN_snoc {α : Type} (f : WS → α × WS) : ∀ n σ, readN f (n + 1) σ = ((readN f n σ).1 ++ [(f (readN f n σ).2).1], (f (readN f n σ).2).2)
  | 0, σ => rfl
  | n + 1, σ => by
    have h := readN_snoc f n (f σ).2
    show ((f σ).1 :: (readN f (n + 1) (f σ).2).1, (readN f (n + 1) (f σ).2).2) = _
    rw [h]; rfl
theorem agr_readN {α : Type} {f g : WS → α × WS} (h : Agr f g) : ∀ n, Agr (readN f n) (readN g n)
  | 0 => Agr.pure []
  | n + 1 => (h.bind fun x => (agr_readN h n).bind fun l => Agr.pure (x :: l)).congr rfl rfl
theorem rLs_readN (σ : WS) : ∀ n, (rLl σ n, rLs σ n) = readN rleg n σ
  | 0 => rfl
  | n + 1 => by rw [readN_snoc, ← rLs_readN σ n]; rfl
def rTxS (σ : WS) : TaxV × WS := (rTx σ, rtake (rtext σ).2 8)
theorem rTs_readN (σ : WS) : ∀ n, (rTl σ n, rTs σ n) = readN rTxS n σ
  | 0 => rfl
  | n + 1 => by rw [readN_snoc, ← rTs_readN σ n]; rfl
/-- bytes, one by one -/
theorem bytes_one : ∀ (n : Nat) (σ : WS), By σ.bs → σ.bad = false → (σ.bs.length < n ∧ (readN (byteF tk · 0) n σ).2.bad = true) ∨ (n ≤ σ.bs.length ∧ readN (byteF tk · 0) n σ = (σ.bs.take n, ⟨false, σ.bs.drop n⟩))
  | 0, σ, hb, h0 => .inr ⟨Nat.zero_le _, by cases σ; simp only at h0; subst h0; rfl⟩
  | n + 1, ⟨bad, bs⟩, hb, h0 => by
    simp only at h0
    subst h0
    cases bs with
    | nil =>
      left
      refine ⟨by simp, ?_⟩
      have hs : ∀ n σ, σ.bad = true → (readN (byteF tk · 0) n σ).2.bad = true := fun n => by
        induction n with
        | zero => exact fun σ h => h
        | succ n ih => exact fun σ h => ih _ (num_sticky σ _ 1 h)
      exact hs n _ rfl
    | cons b bs =>
      have hbb := hb b List.mem_cons_self
      have e : byteF tk ⟨false, b :: bs⟩ 0 = (b, ⟨false, bs⟩) := by
        unfold byteF fld num tk
        simp only [List.length_cons, List.take_succ_cons, List.take_zero, List.drop_succ_cons, List.drop_zero]
        rw [if_neg (by omega)]
        have : valOf [b] = b := by simp [valOf]
        rw [this, wr_u8 hbb]
      have ih := bytes_one n ⟨false, bs⟩ (fun x hx => hb x (List.mem_cons_of_mem _ hx)) rfl
      have e2 : readN (byteF tk · 0) (n + 1) ⟨false, b :: bs⟩ = (b :: (readN (byteF tk · 0) n ⟨false, bs⟩).1, (readN (byteF tk · 0) n ⟨false, bs⟩).2) := by
        show ((byteF tk ⟨false, b :: bs⟩ 0).1 :: (readN (byteF tk · 0) n (byteF tk ⟨false, b :: bs⟩ 0).2).1, _) = _
        rw [e]
        show _ = _
        rw [show (readN (byteF tk · 0) n (byteF tk ⟨false, b :: bs⟩ 0).2).2 = (readN (byteF tk · 0) n ⟨false, bs⟩).2 from by rw [e]]
      rcases ih with ⟨h1, h2⟩ | ⟨h1, h2⟩
      · exact .inl ⟨by simp only [List.length_cons]; simp only at h1; omega, by rw [e2]; exact h2⟩
      · exact .inr ⟨by simp only [List.length_cons]; simp only at h1; omega, by rw [e2, h2]; rfl⟩
theorem agr_bytes (n : Nat) : Agr (fun σ => (rbytes σ n, rtake σ n)) (readN (byteF tk · 0) n) where
  run σ hb h0 := by
    refine ⟨rtake_by hb n, ?_⟩
    rcases bytes_one n σ hb h0 with ⟨h1, h2⟩ | ⟨h1, h2⟩
    · exact .inr ⟨by show (rtake σ n).bad = true; rw [rtake_f (rf_t h1)], h2⟩
    · have hf := rf_f (n := n) (show ¬ σ.bs.length < n by omega) h0
      refine .inl ⟨by show (rtake σ n).bad = false; rw [rtake_t hf], ?_⟩
      show _ = (rbytes σ n, rtake σ n)
      rw [h2, rbytes_t hf, rtake_t hf]
  stickF σ h0 := rtake_sticky σ n h0
  stickG σ h0 := by
    have hs : ∀ n σ, σ.bad = true → (readN (byteF tk · 0) n σ).2.bad = true := fun n => by
      induction n with
      | zero => exact fun σ h => h
      | succ n ih => exact fun σ h => ih _ (num_sticky σ _ 1 h)
    exact hs n σ h0
  byF σ hb := rtake_by hb n
theorem agr_text : Agr rtext (textF tk · ByteArray.empty) := by
  refine ((agr_many 32).bind fun n => (agr_bytes n).bind fun l => Agr.pure (ofBytes l)).congr rfl ?_
  funext σ
  unfold textF listF
  show _ = _
  have e : (bytesOf ByteArray.empty) = [] := rfl
  rw [e]
  simp only [List.length_nil, List.nil_append, Nat.sub_zero]
  rw [readN_each]
  rfl
theorem agr_tax : Agr rTxS (taxF tk · ⟨ByteArray.empty, 0⟩) :=
  (agr_text.bind fun s => (agr_num .i64 0 8 (by omega)).bind fun x => Agr.pure (⟨s, x⟩ : TaxV)).congr rfl rfl
theorem agr_list {α : Type} {f : WS → α × WS} {g : WS → α → α × WS} {z : α} (h : Agr f (g · z)) (most : Nat) : Agr (fun σ => readN f (rmany σ most).1 (rmany σ most).2) (listF g z tk · [] most) := by
  refine ((agr_many most).bind fun n => agr_readN h n).congr rfl ?_
  funext σ
  unfold listF
  simp only [List.length_nil, List.nil_append, Nat.sub_zero]
  rw [readN_each]
  rfl
theorem agr_legs : Agr (fun σ => (rLl (rmany σ 4).2 (rmany σ 4).1, rLs (rmany σ 4).2 (rmany σ 4).1)) (listF (legF tk) ⟨0, 0, 0⟩ tk · [] 4) := (agr_list (agr_leg ⟨0, 0, 0⟩) 4).congr (by funext σ; rw [rLs_readN]) rfl
theorem agr_taxes : Agr (fun σ => (rTl (rmany σ 4).2 (rmany σ 4).1, rTs (rmany σ 4).2 (rmany σ 4).1)) (listF (taxF tk) ⟨ByteArray.empty, 0⟩ tk · [] 4) := (agr_list agr_tax 4).congr (by funext σ; rw [rTs_readN]) rfl
theorem agr_cmd : Agr (fun σ => (rcmdV σ, rtake (rc10 σ) 8)) (cmdF tk · cmd0) :=
  ((agr_num .u8 0 1 (by omega)).bind fun k => (agr_tick ⟨0, 0⟩).bind fun t => (agr_num .u8 0 1 (by omega)).bind fun at_ => (agr_num .i64 0 8 (by omega)).bind fun am => agr_text.bind fun s => agr_legs.bind fun legs => (agr_num .i64 0 8 (by omega)).bind fun fare => agr_taxes.bind fun taxes => (agr_num .i64 0 8 (by omega)).bind fun pen => Agr.pure (⟨k, t, at_, s, legs, fare, taxes, pen, am⟩ : CmdV)).congr (by kernel_rfl) (by kernel_rfl)
theorem agr_msg : Agr (fun σ => (rmsgV σ, rtake (rm8 σ) 8)) (msgF tk · msg0) :=
  ((agr_num .u8 0 1 (by omega)).bind fun k => (agr_tick ⟨0, 0⟩).bind fun t => (agr_num .u8 0 1 (by omega)).bind fun at_ => (agr_leg ⟨0, 0, 0⟩).bind fun l => (agr_num .i64 0 8 (by omega)).bind fun v => (agr_num .u8 0 1 (by omega)).bind fun st => (agr_num .u32 0 4 (by omega)).bind fun nn => (agr_num .i64 0 8 (by omega)).bind fun am => (agr_num .i64 0 8 (by omega)).bind fun cd => Agr.pure (⟨k, t, at_, l, v, st, nn, am, cd⟩ : MsgV)).congr (by kernel_rfl) (by kernel_rfl)

attribute [local irreducible] cmdF msgF rcmdV rmsgV rc10 rm8
theorem agr_rec (bs : List Int) (hb : By bs) : (((rgG bs).2.bad = false ∧ ovT bs = rgG bs) ∨ ((rgG bs).2.bad = true ∧ (ovT bs).2.bad = true)) := by
  have hk : By (rg1 bs).bs ∧ (((rg1 bs).bad = false ∧ ov1 tk ⟨false, bs⟩ rec0 = (rgK1 bs, rg1 bs)) ∨ ((rg1 bs).bad = true ∧ (ov1 tk ⟨false, bs⟩ rec0).2.bad = true)) := (agr_num .u8 0 1 (by omega)).run ⟨false, bs⟩ hb rfl
  have st1 : ∀ σ : WS, σ.bad = true → (rtake (rtake σ 1) 8).bad = true := fun σ h => rtake_sticky _ _ (rtake_sticky _ _ h)
  obtain ⟨hb1, ⟨h1, h2⟩ | ⟨h1, h2⟩⟩ := hk
  · have hb1 : By (rg1 bs).bs := hb1
    have h1 : (rg1 bs).bad = false := h1
    unfold ovT rgG overF
    rw [h2]
    simp only
    by_cases k1 : rgK1 bs = 1
    · rw [if_pos k1, if_pos k1]
      obtain ⟨-, ⟨g1, g2⟩ | ⟨g1, g2⟩⟩ := agr_cmd.run (rg1 bs) hb1 h1
      · left
        refine ⟨g1, ?_⟩
        rw [show (rec0 : RecV).cmd = cmd0 from rfl, g2]
        kernel_rfl
      · exact .inr ⟨g1, g2⟩
    · rw [if_neg k1, if_neg k1]
      have hF : By (rtake (rg1 bs) 1).bs ∧ (((rtake (rg1 bs) 1).bad = false ∧ fld .u8 tk (rg1 bs) 0 1 = (rgF bs, rtake (rg1 bs) 1)) ∨ ((rtake (rg1 bs) 1).bad = true ∧ (fld .u8 tk (rg1 bs) 0 1).2.bad = true)) := (agr_num .u8 0 1 (by omega)).run (rg1 bs) hb1 h1
      have e2 : ov2 tk ⟨false, bs⟩ rec0 = fld .u8 tk (rg1 bs) 0 1 := by show fld .u8 tk (ov1 tk ⟨false, bs⟩ rec0).2 _ 1 = _; rw [h2]; rfl
      rw [← e2] at hF
      obtain ⟨hb2, hF⟩ := hF
      have hN : ∀ (hbad : (rtake (rg1 bs) 1).bad = false) (he : ov2 tk ⟨false, bs⟩ rec0 = (rgF bs, rtake (rg1 bs) 1)), By (rg3 bs).bs ∧ (((rg3 bs).bad = false ∧ ov3 tk ⟨false, bs⟩ rec0 = (rgN bs, rg3 bs)) ∨ ((rg3 bs).bad = true ∧ (ov3 tk ⟨false, bs⟩ rec0).2.bad = true)) := fun hbad he => by
        have := (agr_num64 0 8 (by omega)).run (rtake (rg1 bs) 1) hb2 hbad
        have e3 : ov3 tk ⟨false, bs⟩ rec0 = num tk (rtake (rg1 bs) 1) 0 8 := by show num tk (ov2 tk ⟨false, bs⟩ rec0).2 _ 8 = _; rw [he]; rfl
        rw [← e3] at this
        exact this
      have badN : (rtake (rg1 bs) 1).bad = true → (rg3 bs).bad = true := fun h => rtake_sticky _ _ h
      have badO : (ov2 tk ⟨false, bs⟩ rec0).2.bad = true → (ov3 tk ⟨false, bs⟩ rec0).2.bad = true := fun h => num_sticky _ _ _ h
      by_cases k2 : rgK1 bs = 2
      · rw [if_pos k2, if_pos k2]
        rcases hF with ⟨f1, f2⟩ | ⟨f1, f2⟩
        · obtain ⟨hb3, ⟨n1, n2⟩ | ⟨n1, n2⟩⟩ := hN f1 f2
          · obtain ⟨-, ⟨g1, g2⟩ | ⟨g1, g2⟩⟩ := agr_msg.run (rg3 bs) hb3 n1
            · left
              refine ⟨g1, ?_⟩
              rw [f2, n2, show (rec0 : RecV).msg = msg0 from rfl, g2]
              kernel_rfl
            · right
              refine ⟨g1, ?_⟩
              rw [n2]; exact g2
          · exact .inr ⟨agr_msg.stickF _ n1, agr_msg.stickG _ n2⟩
        · exact .inr ⟨agr_msg.stickF _ (badN f1), agr_msg.stickG _ (badO f2)⟩
      · rw [if_neg k2, if_neg k2]
        by_cases k3 : rgK1 bs = 3
        · rw [if_pos k3, if_pos k3]
          rcases hF with ⟨f1, f2⟩ | ⟨f1, f2⟩
          · obtain ⟨hb3, ⟨n1, n2⟩ | ⟨n1, n2⟩⟩ := hN f1 f2
            · left
              refine ⟨n1, ?_⟩
              rw [f2, n2]
              rfl
            · exact .inr ⟨n1, n2⟩
          · exact .inr ⟨badN f1, badO f2⟩
        · rw [if_neg k3, if_neg k3]
          exact .inr ⟨rfl, rfl⟩
  · -- nothing is there
    right
    have h1 : (rg1 bs).bad = true := h1
    have h2 : (ov1 tk ⟨false, bs⟩ rec0).2.bad = true := h2
    have b2 : (ov2 tk ⟨false, bs⟩ rec0).2.bad = true := num_sticky _ _ _ h2
    have b3 : (ov3 tk ⟨false, bs⟩ rec0).2.bad = true := num_sticky _ _ _ b2
    have c3 : (rg3 bs).bad = true := st1 _ h1
    constructor
    · unfold rgG
      split
      · exact agr_cmd.stickF _ h1
      · split
        · exact agr_msg.stickF _ c3
        · split
          · exact c3
          · rfl
    · unfold ovT overF
      split
      · exact agr_cmd.stickG _ h2
      · split
        · exact agr_msg.stickG _ b3
        · split
          · exact b3
          · rfl
theorem rget_eq (bs : List Int) (hb : By bs) : rgR bs = getR bs ∧ rgE bs = getE bs := by
  have e : rgBad bs = true ↔ badT bs := by
    unfold rgBad badT
    rcases agr_rec bs hb with ⟨h1, h2⟩ | ⟨h1, h2⟩
    · rw [h2]; simp only [Bool.or_eq_true, decide_eq_true_eq]
    · rw [h1, h2]; simp
  have e2 : ¬ rgBad bs = true → (ovT bs).1 = (rgG bs).1 := fun h => by
    rcases agr_rec bs hb with ⟨h1, h2⟩ | ⟨h1, h2⟩
    · rw [h2]
    · exact absurd (by unfold rgBad; rw [h1]; rfl) h
  unfold rgR rgE getR getE
  by_cases h : rgBad bs = true
  · have hb := e.1 h
    rw [if_pos h, if_pos h, if_pos hb, if_pos hb]; exact ⟨rfl, rfl⟩
  · have hb : ¬ badT bs := fun x => h (e.2 x)
    rw [if_neg h, if_neg h, if_neg hb, if_neg hb]; exact ⟨(e2 h).symm, rfl⟩
end Go.Proofs.Ytfcjmpgbohgoeaa
