/- CODEC: what is laid, in plain words. -/
import Derived.Test.YtfcjmpgbohgoeaaCo15
namespace Go.Proofs.Ytfcjmpgbohgoeaa
open Go.RowKit Go.Lib Go.Tk Go.Shelf Go.Vc
set_option linter.unusedVariables false
set_option linter.unusedSimpArgs false

theorem back_wrap {k : IntKind} {x : Int} (h : In k x) : k.wrap (IntKind.u64.wrap x) = x := by
 cases k <;> simp only [In] at h
 all_goals first
  | exact h.elim
  | (rw [IntKind.wrap_u64]; first | rw [IntKind.wrap_u8] | rw [IntKind.wrap_u16] | rw [IntKind.wrap_u32] | rw [IntKind.wrap_u64] | rw [IntKind.wrap_i64]) <;> omega
def encN (x : Int) (n : Nat) : List Int := be (IntKind.u64.wrap x) n
theorem encN_len (x : Int) (n : Nat) : (encN x n).length = n := be_len _ _
theorem fld_lay {k : IntKind} {x : Int} (h : In k x) (σ : WS) (n : Nat) : fld k .lay σ x n = (x, ⟨σ.bad, σ.bs ++ encN x n⟩) := by
 unfold fld
 show (k.wrap (IntKind.u64.wrap x), _) = _
 rw [back_wrap h]; rfl
theorem num_lay {x : Int} (h : In .u64 x) (σ : WS) (n : Nat) : num .lay σ x n = (x, ⟨σ.bad, σ.bs ++ encN x n⟩) := by
 unfold encN; rw [show IntKind.u64.wrap x = x from wr_u64 h]; rfl
def tickBy (t : TickV) : List Int := encN t.c 1 ++ encN t.r 8
def legBy (l : LegV) : List Int := encN l.c 1 ++ (encN l.f 2 ++ encN l.x 4)
def lenBy (n : Nat) : List Int := be (n : Int) 1
def textBy (s : ByteArray) : List Int := lenBy s.size ++ bytesOf s
def taxBy (t : TaxV) : List Int := textBy t.code ++ encN t.amt 8
def legsBy (l : List LegV) : List Int := lenBy l.length ++ (l.map legBy).flatten
def taxesBy (l : List TaxV) : List Int := lenBy l.length ++ (l.map taxBy).flatten
def cmdBy (c : CmdV) : List Int := encN c.kind 1 ++ (tickBy c.tick ++ (encN c.at_ 1 ++ (encN c.amount 8 ++ (textBy c.name ++ (legsBy c.legs ++ (encN c.fare 8 ++ (taxesBy c.taxes ++ encN c.penalty 8)))))))
def msgBy (m : MsgV) : List Int := encN m.kind 1 ++ (tickBy m.tick ++ (encN m.at_ 1 ++ (legBy m.leg ++ (encN m.value 8 ++ (encN m.status 1 ++ (encN m.nonce 4 ++ (encN m.amount 8 ++ encN m.code 8)))))))
def recBy (r : RecV) : List Int := encN r.kind 1 ++ (if r.kind = 1 then cmdBy r.cmd else if r.kind = 2 then encN r.frm 1 ++ (encN r.number 8 ++ msgBy r.msg) else encN r.frm 1 ++ encN r.number 8)
/-- f lays x as E -/
def Lays {α : Type} (f : WS → α → α × WS) (x : α) (E : List Int) : Prop := ∀ σ, f σ x = (x, ⟨σ.bad, σ.bs ++ E⟩)
theorem tickF_lay {t : TickV} (h : TickIn t) : Lays (tickF .lay) t (tickBy t) := fun σ => by
 unfold tickF; rw [fld_lay h.c, num_lay h.r]; simp [tickBy]
theorem legF_lay {l : LegV} (h : LegIn l) : Lays (legF .lay) l (legBy l) := fun σ => by
 unfold legF; rw [fld_lay h.c, fld_lay h.f, fld_lay h.x]; simp [legBy]
theorem eachL_lay {α : Type} {f : WS → α → α × WS} {E : α → List Int} : ∀ (xs : List α), (∀ x ∈ xs, Lays f x (E x)) → ∀ σ, eachL f σ xs = (xs, ⟨σ.bad, σ.bs ++ (xs.map E).flatten⟩)
 | [], _, σ => by simp [eachL]
 | x :: xs, h, σ => by
  unfold eachL
  rw [h x List.mem_cons_self σ, eachL_lay xs (fun y hy => h y (List.mem_cons_of_mem _ hy))]
  simp
theorem listF_lay {α : Type} {f : WS → α → α × WS} {E : α → List Int} {z : α} {xs : List α} {most : Nat} (h : ∀ x ∈ xs, Lays f x (E x)) (hn : xs.length ≤ most) (σ : WS) : listF f z .lay σ xs most = (xs, ⟨σ.bad, σ.bs ++ (lenBy xs.length ++ (xs.map E).flatten)⟩) := by
 have e : listN .lay σ xs.length most = (xs.length, ⟨σ.bad, σ.bs ++ lenBy xs.length⟩) := by
  unfold listN
  rw [if_neg (show ¬ (num .lay σ xs.length 1).1 > (most : Int) from by show ¬ (xs.length : Int) > most; omega)]
  show ((xs.length : Int).toNat, _) = _
  rw [Int.toNat_natCast]; rfl
 unfold listF
 rw [e, Nat.sub_self, List.replicate_zero, List.append_nil, eachL_lay xs h]
 simp
theorem byteF_lay {x : Int} (h : 0 ≤ x ∧ x ≤ 255) : Lays (byteF .lay) x [x] := fun σ => by
 unfold byteF; rw [fld_lay (show In .u8 x from h)]
 have : encN x 1 = [x] := by
  unfold encN
  rw [wr_u64 (by omega)]
  show [x / 2 ^ (8 * 0) % 256] = [x]
  simp; omega
 rw [this]
theorem flat_one : ∀ (l : List Int), (l.map fun x => [x]).flatten = l
 | [] => rfl
 | x :: l => by simp [flat_one l]
theorem textF_lay {s : ByteArray} (h : s.size ≤ 32) : Lays (textF .lay) s (textBy s) := fun σ => by
 unfold textF
 rw [listF_lay (E := fun x => [x]) (fun x hx => byteF_lay (bytesOf_in s x hx)) (by rw [bytesOf_len]; exact h)]
 rw [ofBytes_bytesOf, bytesOf_len, flat_one]; rfl
theorem taxF_lay {t : TaxV} (h : TaxIn t) (hs : t.code.size ≤ 32) : Lays (taxF .lay) t (taxBy t) := fun σ => by
 unfold taxF; rw [textF_lay hs, fld_lay h.amt]; simp [taxBy]
structure Short (c : CmdV) : Prop where
 name : c.name.size ≤ 32
 legs : c.legs.length ≤ 4
 taxes : c.taxes.length ≤ 4
 codes : ∀ t ∈ c.taxes, t.code.size ≤ 32
theorem cmdF_lay {c : CmdV} (h : CmdIn c) (hs : Short c) : Lays (cmdF .lay) c (cmdBy c) := fun σ => by
 have e1 : cd1 .lay σ c = _ := fld_lay h.kind σ 1
 have e2 := (show cd2 .lay σ c = _ from tickF_lay h.tick _)
 rw [e1] at e2
 have e3 := (show cd3 .lay σ c = _ from fld_lay h.at_ _ 1)
 rw [e2] at e3
 have e4 := (show cd4 .lay σ c = _ from fld_lay h.amount _ 8)
 rw [e3] at e4
 have e5 := (show cd5 .lay σ c = _ from textF_lay hs.name _)
 rw [e4] at e5
 have e6 := (show cd6 .lay σ c = _ from listF_lay (E := legBy) (fun l hl => legF_lay (h.legs l hl)) hs.legs _)
 rw [e5] at e6
 have e7 := (show cd7 .lay σ c = _ from fld_lay h.fare _ 8)
 rw [e6] at e7
 have e8 := (show cd8 .lay σ c = _ from listF_lay (E := taxBy) (fun t ht => taxF_lay (h.taxes t ht) (hs.codes t ht)) hs.taxes _)
 rw [e7] at e8
 have e9 := (show cd9 .lay σ c = _ from fld_lay h.penalty _ 8)
 rw [e8] at e9
 unfold cmdF
 rw [e1, e2, e3, e4, e5, e6, e7, e8, e9]
 simp [cmdBy, legsBy, taxesBy]
theorem msgF_lay {c : MsgV} (h : MsgIn c) : Lays (msgF .lay) c (msgBy c) := fun σ => by
 have e1 : md1 .lay σ c = _ := fld_lay h.kind σ 1
 have e2 := (show md2 .lay σ c = _ from tickF_lay h.tick _)
 rw [e1] at e2
 have e3 := (show md3 .lay σ c = _ from fld_lay h.at_ _ 1)
 rw [e2] at e3
 have e4 := (show md4 .lay σ c = _ from legF_lay h.leg _)
 rw [e3] at e4
 have e5 := (show md5 .lay σ c = _ from fld_lay h.value _ 8)
 rw [e4] at e5
 have e6 := (show md6 .lay σ c = _ from fld_lay h.status _ 1)
 rw [e5] at e6
 have e7 := (show md7 .lay σ c = _ from fld_lay h.nonce _ 4)
 rw [e6] at e7
 have e8 := (show md8 .lay σ c = _ from fld_lay h.amount _ 8)
 rw [e7] at e8
 have e9 := (show md9 .lay σ c = _ from fld_lay h.code _ 8)
 rw [e8] at e9
 unfold msgF
 rw [e1, e2, e3, e4, e5, e6, e7, e8, e9]
 simp [msgBy]
theorem short_of {r : RecV} (hl : ¬ longV r) : Short r.cmd := by
 have h1 : ¬ (r.cmd.name.size : Int) > 32 := fun h => hl (.inl h)
 have h2 : ¬ (r.cmd.legs.length : Int) > 4 := fun h => hl (.inr (.inl h))
 have h3 : ¬ (r.cmd.taxes.length : Int) > 4 := fun h => hl (.inr (.inr (.inl h)))
 refine ⟨by omega, by omega, by omega, fun t ht => ?_⟩
 rcases Nat.lt_or_ge 32 t.code.size with h | h
 · exact absurd (.inr (.inr (.inr (List.any_eq_true.2 ⟨t, ht, by unfold longT; exact decide_eq_true (by omega)⟩)))) hl
 · exact h
theorem overF_lay {r : RecV} (h : RecIn r) (hs : Short r.cmd) (hk : 1 ≤ r.kind ∧ r.kind ≤ 3) : Lays (overF .lay) r (recBy r) := fun σ => by
 have e1 : ov1 .lay σ r = _ := fld_lay h.kind σ 1
 have e2 := (show ov2 .lay σ r = _ from fld_lay h.frm _ 1)
 rw [e1] at e2
 have e3 := (show ov3 .lay σ r = _ from num_lay h.number _ 8)
 rw [e2] at e3
 unfold overF
 rw [e1]
 by_cases k1 : r.kind = 1
 ·
  rw [if_pos k1, cmdF_lay h.cmd hs]; simp [recBy, k1]
  obtain ⟨rk, rc, rf, rn, rm⟩ := r; simp at k1; simp [k1]
 ·
  rw [if_neg k1]
  by_cases k2 : r.kind = 2
  ·
   rw [if_pos k2, e2, e3, msgF_lay h.msg]; simp [recBy, k2]
   obtain ⟨rk, rc, rf, rn, rm⟩ := r; simp at k2; simp [k2]
  ·
   rw [if_neg k2, if_pos (show r.kind = 3 by omega), e2, e3]
   simp [recBy, k1, k2]
theorem put_ok {r : RecV} (h : putE r = 0) : (1 ≤ r.kind ∧ r.kind ≤ 3) ∧ cutV r = r ∧ ¬ longV r := by
 unfold putE at h
 split at h
 · cases h
 ·
  rename_i h1
  split at h
  · cases h
  ·
   rename_i h2
   refine ⟨⟨?_, ?_⟩, ?_, h2⟩
   ·
    rcases Int.lt_or_le r.kind 1 with h3 | h3
    · exact absurd (.inl h3) h1
    · exact h3
   ·
    rcases Int.lt_or_le 3 r.kind with h3 | h3
    · exact absurd (.inr (.inl h3)) h1
    · exact h3
   ·
    cases h3 : sameV r (cutV r) with
    | false => exact absurd (.inr (.inr h3)) h1
    | true => exact ((sameV_iff _ _).1 h3).symm
theorem putB_eq {r : RecV} (h : putE r = 0) (hi : RecIn r) : putB r = recBy r := by
 obtain ⟨h1, h2, h3⟩ := put_ok h
 unfold putB
 rw [if_pos h, overF_lay hi (short_of h3) h1]
 rfl
/-! ### sizes -/
end Go.Proofs.Ytfcjmpgbohgoeaa
