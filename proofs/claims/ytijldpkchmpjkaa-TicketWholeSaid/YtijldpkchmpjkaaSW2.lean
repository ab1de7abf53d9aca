/- PRORATE: the stable sort of rests, walked: SW2. -/
import Derived.Test.YtijldpkchmpjkaaSW1
namespace Go.Proofs.Ytijldpkchmpjkaa
open Go.RowKit Go.Lib Go.Tk Go.Sort Go.Shelf
attribute [-go_sem] loadCellsFrom

theorem swapRange_at (blk off cap a b n : Nat) (az bz nz : Int) (ha : az = (a : Int)) (hbz : bz = (b : Int)) (hn : nz = (n : Int)) (d0 d : RA) (w0 w : World) (R : RowK encR 2 w0 blk off d0) (hs : d.size = d0.size) (S : SWK encR 2 w0 blk off d w)
    (hab : a + n ≤ b) (hb : b + n ≤ d0.size) (hsz : d0.size < 4611686018427387904) :
    Calls Try.prog 73 #[.slice (some ⟨blk, off, none⟩) d0.size cap, .int .i64 az, .int .i64 bz, .int .i64 nz, .func (.func 33) #[] #[]] w fun e w' =>
      e = .returned (.tuple #[]) ∧ SWK encR 2 w0 blk off (swapR d a b n) w' := by
  subst ha hbz hn
  rw [← hs]
  exact swapRange_any blk off cap a b n d0 d w0 w R hs.symm S hab (by omega) (by omega)

set_option maxHeartbeats 4000000 in
set_option maxRecDepth 1000000 in
theorem rotate_any (blk off cap a m b : Nat) (d0 d : RA) (w0 w : World) (R : RowK encR 2 w0 blk off d0) (hs : d.size = d0.size) (S : SWK encR 2 w0 blk off d w)
    (ham : a < m) (hmb : m < b) (hb : b ≤ d0.size) (hsz : d0.size < 4611686018427387904) :
    Calls Try.prog 71 #[.slice (some ⟨blk, off, none⟩) d0.size cap, .int .i64 a, .int .i64 m, .int .i64 b, .func (.func 33) #[] #[]] w fun e w' =>
      e = .returned (.tuple #[]) ∧ ∃ d', SWK encR 2 w0 blk off d' w' ∧ PermIn a b d d' ∧ IsRot d d' a m b := by
  have mixed := Try.mixed
  have S0 : Aside (SWK encR 2 w0 blk off d w) := S
  clear S
  go_enter Try.func71, Try.ntmps71
  go_wp2
  go_loopg [10, 11] (b - a) (fun kx s10 s11 wr => ∃ (i j : Nat) (dk : RA), s10 = .int .i64 i ∧ s11 = .int .i64 j ∧ 0 < i ∧ 0 < j ∧ a + i ≤ m ∧ m + j ≤ b ∧ i + j ≤ kx ∧ dk.size = d0.size ∧ Aside (SWK encR 2 w0 blk off dk wr) ∧
    Aside (PermIn a b d dk ∧ ∀ d', IsRot dk d' (m - i) m (m + j) → IsRot d d' a m b))
  case atStart =>
    refine ⟨m - a, b - m, d, by go_num, by go_num, by omega, by omega, by omega, by omega, by omega, hs, S0, permIn_refl d a b, fun d' h => ?_⟩
    rw [show m - (m - a) = a by omega, show m + (b - m) = b by omega] at h
    exact h
  case round =>
    clear S0
    obtain ⟨i, j, dk, rfl, rfl, hi, hj, hai, hjb, hkx, hsk, S1, PR⟩ := hrel
    rcases Nat.lt_trichotomy i j with hlt | rfl | hlt
    · have h1 : ((i : Int) != (j : Int)) = true := by simp; omega
      have h2 : ¬ (j : Int) < (i : Int) := by omega
      go_wp2_with fail
      go_at_call 73
      refine (swapRange_at blk off cap (m - i) (m + j - i) i _ _ _ (by omega) (by omega) rfl d0 dk w0 wr R hsk S1.out (by omega) (by omega) hsz).mono ?_
      rintro e w' ⟨rfl, hS⟩
      have S2 : Aside (SWK encR 2 w0 blk off (swapR dk (m - i) (m + j - i) i) w') := hS
      clear hS S1
      go_wp2
      go_roundg j
      case measure => omega
      case rel =>
        refine ⟨i, j - i, swapR dk (m - i) (m + j - i) i, rfl, by go_num, hi, by omega, hai, by omega, by omega, by rw [size_swapR]; exact hsk, S2, permIn_trans _ _ _ _ _ PR.out.1 (swapR_perm dk (m - i) (m + j - i) a b (by omega) (by omega) (by omega) i (by omega)), fun d' h => ?_⟩
        refine PR.out.2 d' (IsRot.right (by omega) (by omega) (by omega) (by omega) ?_)
        rw [show m + j - (m - (m - i)) = m + j - i by omega, show m - (m - i) = i by omega]
        rw [show m + (j - i) = m + j - i by omega] at h
        exact h
    · have h1 : ((i : Int) != (i : Int)) = false := by simp
      go_wp2_with fail
      go_at_call 73
      refine (swapRange_at blk off cap (m - i) m i _ _ _ (by omega) rfl rfl d0 dk w0 wr R hsk S1.out (by omega) (by omega) hsz).mono ?_
      rintro e w' ⟨rfl, hS⟩
      have S2 : Aside (SWK encR 2 w0 blk off (swapR dk (m - i) m i) w') := hS
      clear hS S1
      go_wp2
      go_end0
      refine ⟨rfl, _, S2.out, permIn_trans _ _ _ _ _ PR.out.1 (swapR_perm dk (m - i) m a b (by omega) (by omega) (by omega) i (by omega)), PR.out.2 _ ?_⟩
      have := IsRot.eq (d := dk) (a := m - i) (m := m) (b := m + i) (by omega) (by omega) (by omega) (by omega)
      rw [show m - (m - i) = i by omega] at this
      exact this
    · have h1 : ((i : Int) != (j : Int)) = true := by simp; omega
      have h2 : (j : Int) < (i : Int) := by omega
      go_wp2_with fail
      go_at_call 73
      refine (swapRange_at blk off cap (m - i) m j _ _ _ (by omega) rfl rfl d0 dk w0 wr R hsk S1.out (by omega) (by omega) hsz).mono ?_
      rintro e w' ⟨rfl, hS⟩
      have S2 : Aside (SWK encR 2 w0 blk off (swapR dk (m - i) m j) w') := hS
      clear hS S1
      go_wp2
      go_roundg i
      case measure => omega
      case rel =>
        refine ⟨i - j, j, swapR dk (m - i) m j, by go_num, rfl, by omega, hj, by omega, hjb, by omega, by rw [size_swapR]; exact hsk, S2, permIn_trans _ _ _ _ _ PR.out.1 (swapR_perm dk (m - i) m a b (by omega) (by omega) (by omega) j (by omega)), fun d' h => ?_⟩
        refine PR.out.2 d' (IsRot.left (by omega) (by omega) (by omega) (by omega) ?_)
        rw [show m + j - m = j by omega, show m - i + j = m - (i - j) by omega]
        exact h
end Go.Proofs.Ytijldpkchmpjkaa
