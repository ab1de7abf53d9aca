/- CODEC: bytes of numbers, numbers of bytes. -/
import Derived.Test.YtfcjmpgbohgoeaaOps
import Derived.Test.YtfcjmpgbohgoeaaRows
namespace Go.Proofs.Ytfcjmpgbohgoeaa
set_option linter.unusedVariables false
set_option linter.unusedSimpArgs false
open Go.RowKit Go.Lib Go.Tk Go.Shelf Go.Vc

def byteAt (v : Int) (i : Nat) : Int := v / 2 ^ (8 * i) % 256
/-- the first i of n bytes -/
def beHi (v : Int) (n : Nat) : Nat → List Int
  | 0 => []
  | i + 1 => beHi v n i ++ [byteAt v (n - 1 - i)]
def be (v : Int) (n : Nat) : List Int := beHi v n n
def valOf (l : List Int) : Int := l.foldl (fun v c => v * 256 + c) 0
theorem beHi_len (v : Int) (n : Nat) : ∀ i, (beHi v n i).length = i
  | 0 => rfl
  | i + 1 => by unfold beHi; simp [beHi_len v n i]
theorem be_len (v : Int) (n : Nat) : (be v n).length = n := beHi_len v n n
theorem valOf_snoc (l : List Int) (c : Int) : valOf (l ++ [c]) = valOf l * 256 + c := by simp [valOf]
theorem valOf_in : ∀ (n : Nat) (l : List Int), l.length = n → (∀ x ∈ l, 0 ≤ x ∧ x ≤ 255) → 0 ≤ valOf l ∧ valOf l < 256 ^ n
  | 0, l, hl, _ => by
    have : l = [] := List.length_eq_zero_iff.1 hl
    subst this; exact ⟨Int.le_refl _, by decide⟩
  | n + 1, l, hl, h => by
    obtain ⟨r, c, rfl⟩ : ∃ r c, l = r ++ [c] := ⟨l.dropLast, l.getLast (by intro e; subst e; simp at hl), (List.dropLast_concat_getLast _).symm⟩
    have ih := valOf_in n r (by simpa using hl) (fun x hx => h x (by simp [hx]))
    have hc := h c (by simp)
    rw [valOf_snoc, Int.pow_succ]
    omega
theorem byte_wrap (v : Int) (k : Nat) : IntKind.u8.wrap (v / 2 ^ (8 * k)) = byteAt v k := by
  rw [IntKind.wrap_u8]; rfl

/-- what a walk over fields has read or laid -/
structure WS where
  bad : Bool
  bs : List Int
inductive Md where
  | lay
  | take (D : Chunk)
def num : Md → WS → Int → Nat → Int × WS
  | .lay, σ, v, n => (v, ⟨σ.bad, σ.bs ++ be v n⟩)
  | .take _, σ, _, n => if σ.bs.length < n then (0, ⟨true, []⟩) else (valOf (σ.bs.take n), ⟨σ.bad, σ.bs.drop n⟩)
def nf : Md → Nat
  | .lay => 27
  | .take _ => 32
def InSlice (D : Chunk) (v : Value) (bs : List Int) : Prop := ∃ a c, v = .slice a bs.length c ∧ bs.length ≤ c ∧ Rd D a (bs.map (.int .u8)) ∧ (a = none → c = 0) ∧ ∀ x ∈ bs, 0 ≤ x ∧ x ≤ 255
def tailC : Md → Value → List Int → Chunk
  | .lay, v, bs => rowC 5 1 v bs.length (bs.map (.int .u8))
  | .take D, v, bs => allC [D, pureC (InSlice D v bs)]
def walkB (m : Md) (pw : Nat) (v : Value) (bad : Bool) : Chunk := boxC pw #[v, .func (.func (nf m)) #[.pointer (some ⟨pw, 0, none⟩)] #[], .bool bad]
def walkC (m : Md) (pw : Nat) (σ : WS) : Chunk := exC fun v => allC [walkB m pw v σ.bad, tailC m v σ.bs]
theorem walk_open {m : Md} {pw : Nat} {σ : WS} {R : List Chunk} {w : World} (h : Mem (walkC m pw σ :: R) w) : ∃ v, Mem (walkB m pw v σ.bad :: tailC m v σ.bs :: R) w := by
  obtain ⟨v, h⟩ := h.ex
  exact ⟨v, h.all⟩
theorem walk_shut {m : Md} {pw : Nat} {σ : WS} {v : Value} {R : List Chunk} {w : World} (h : Mem (walkB m pw v σ.bad :: tailC m v σ.bs :: R) w) : Mem (walkC m pw σ :: R) w :=
  Mem.in_ex v (Mem.in_all (l := [walkB m pw v σ.bad, tailC m v σ.bs]) h)
end Go.Proofs.Ytfcjmpgbohgoeaa
