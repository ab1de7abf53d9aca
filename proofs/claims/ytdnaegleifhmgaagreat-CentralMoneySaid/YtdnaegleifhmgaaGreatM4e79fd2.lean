/- SW3, SW4. -/
import Derived.Test.YtdnaegleifhmgaaGreatM009d203
import Derived.Lib.SlicesSearch
import Derived.Lib.Walk
set_option maxRecDepth 100000
set_option linter.unusedVariables false
set_option linter.unusedSimpArgs false
set_option linter.unusedSectionVars false
section
namespace Go.Proofs.YtdnaegleifhmgaaGreat
open Go.RowKit Go.Lib Go.Tk Go.Sort Go.Shelf
attribute [-go_sem] loadCellsFrom
set_option maxHeartbeats 4000000 in
set_option maxRecDepth 1000000 in
theorem symOne_any (blk off cap a b : Nat) (d0 d : RA) (w0 w : World) (R : RowK encR 2 w0 blk off d0) (hs : d.size = d0.size) (S : SWK encR 2 w0 blk off d w)
    (hmb : a + 1 < b) (hb : b ≤ d0.size) (hsz : d0.size < 4611686018427387904) (hR : Srt d (a + 1) b) (hC : Crs d a (a + 1) b) (mz : Int) (hmz : mz = ((a + 1 : Nat) : Int)) :
    Calls Tryz.prog 167 #[.slice (some ⟨blk, off, none⟩) d0.size cap, .int .i64 a, .int .i64 mz, .int .i64 b, .func (.func 157) #[] #[]] w fun e w' =>
      e = .returned (.tuple #[]) ∧ ∃ d', SWK encR 2 w0 blk off d' w' ∧ PermIn a b d d' ∧ Srt d' a b := by
  have mixed := Tryz.mixed
  have S0 : Aside (SWK encR 2 w0 blk off d w) := S
  have HR : Aside (Srt d (a + 1) b) := hR
  have HC : Aside (Crs d a (a + 1) b) := hC
  obtain ⟨m, hm1, hm2⟩ : ∃ m : Nat, m ≤ a + 1 ∧ a + 1 ≤ m := ⟨_, Nat.le_refl _, Nat.le_refl _⟩
  obtain rfl : mz = (m : Int) := by omega
  clear hmz
  have t1 : ((m : Int) - (a : Int) == 1) = true := by simp; omega
  clear S hR hC
  go_enter Tryz.func167, Tryz.ntmps167
  go_wp2
  go_loopg [10, 11] (b - m) (fun kx s10 s11 wr => ∃ i j : Nat, s10 = .int .i64 i ∧ s11 = .int .i64 j ∧ m ≤ i ∧ i ≤ j ∧ j ≤ b ∧ j - i ≤ kx ∧ Aside (SWK encR 2 w0 blk off d wr) ∧
    Aside ((∀ h, m ≤ h → h < i → d[a]!.1 < d[h]!.1) ∧ (∀ h, j ≤ h → h < b → ¬ d[a]!.1 < d[h]!.1)))
  case atStart => exact ⟨m, b, rfl, rfl, by omega, by omega, by omega, by omega, S0, fun h _ _ => by omega, fun h _ _ => by omega⟩
  case round =>
    clear S0
    obtain ⟨i, j, rfl, rfl, hmi, hij, hjb, hkx, S1, BS⟩ := hrel
    by_cases hlt : i < j
    · have hltz : (i : Int) < (j : Int) := by omega
      obtain ⟨xh, hxh⟩ : ∃ x, d[(i + j) / 2]! = x := ⟨_, rfl⟩
      obtain ⟨xa, hxa⟩ : ∃ x, d[a]! = x := ⟨_, rfl⟩
      have lj := S1.out.ld R hs Tryz.prog ((i + j) / 2) (by omega)
      have la := S1.out.ld R hs Tryz.prog a (by omega)
      have hcg : ∀ n' os', Calls Tryz.prog 157 #[.agg (encR xh).toArray, .agg (encR xa).toArray] (grow (wr.drewN n') os') fun e w' => e = .returned (.int .i64 (cfR xh xa)) ∧ ∃ q os'', w' = grow ((grow (wr.drewN n') os').drewN q) os'' :=
        fun n os => S1.out.cmp (cmp_lays blk off d0.size w0) hs xh xa n os
      rw [hxh] at lj
      rw [hxa] at la
      have ph : (0 : Int) ≤ ((i : Int) + (j : Int)) / 2 := by omega
      have bh : ((i : Int) + (j : Int)) / 2 < (d0.size : Int) := by omega
      have eh : (((i : Int) + (j : Int)) / 2).toNat = (i + j) / 2 := by omega
      have pa : (0 : Int) ≤ (a : Int) := by omega
      have ba : (a : Int) < (d0.size : Int) := by omega
      have XH : Hid (d[(i + j) / 2]! = xh ∧ d[a]! = xa) := ⟨hxh, hxa⟩
      clear hxh hxa
      by_cases hlv : cfR xh xa < 0
      · go_wp2_with fail
        go_quiet_grown (first | (go_at_call 157; refine Calls.grown_of (hcg _ _)))
        have S2 : Aside (SWK encR 2 w0 blk off d (grow (wr.drewN nq) osq)) := S1.out.grown nq osq
        go_wp2
        go_roundg (j - ((i + j) / 2 + 1))
        case measure => omega
        case rel =>
          refine ⟨(i + j) / 2 + 1, j, by go_num, rfl, by omega, by omega, hjb, Nat.le_refl _, S2, fun h h1 h2 => ?_, BS.out.2⟩
          have e1 := (cfR_neg xh xa).1 hlv
          rw [← XH.out.1, ← XH.out.2] at e1
          have e2 := HR.out.le (i := h) (j := (i + j) / 2) (by omega) (by omega) (by omega)
          omega
      · go_wp2_with fail
        go_quiet_grown (first | (go_at_call 157; refine Calls.grown_of (hcg _ _)))
        have S2 : Aside (SWK encR 2 w0 blk off d (grow (wr.drewN nq) osq)) := S1.out.grown nq osq
        go_wp2
        go_roundg ((i + j) / 2 - i)
        case measure => omega
        case rel =>
          refine ⟨i, (i + j) / 2, rfl, by go_num, hmi, by omega, by omega, Nat.le_refl _, S2, BS.out.1, fun h h1 h2 => ?_⟩
          have e1 : ¬ xa.1 < xh.1 := fun k => by have := (cfR_neg xh xa).2 k; omega
          rw [← XH.out.1, ← XH.out.2] at e1
          have e2 := HR.out.le (i := (i + j) / 2) (j := h) (by omega) h1 h2
          omega
    · have hltz : ¬ (i : Int) < (j : Int) := by omega
      go_wp2
      go_loopg [13] (i - 1 - a) (fun kx s13 wr => ∃ t : Nat, s13 = .int .i64 ((a + t : Nat) : Int) ∧ a + t + 1 ≤ i ∧ i - 1 - (a + t) ≤ kx ∧ Aside (SWK encR 2 w0 blk off (shiftU d a t) wr))
      case atStart => exact ⟨0, by simp, by omega, by omega, S1⟩
      case round =>
        clear S1
        obtain ⟨t, rfl, ht, hk2, S1⟩ := hrel
        obtain ⟨dk, hdk⟩ : ∃ dk, dk = shiftU d a t := ⟨_, rfl⟩
        have hds : dk.size = d0.size := by rw [hdk, size_shiftU]; exact hs
        have HD : Hid (dk = shiftU d a t) := hdk
        rw [← hdk] at S1
        clear hdk
        obtain ⟨k, hk3, hk4⟩ : ∃ k : Nat, k ≤ a + t ∧ a + t ≤ k := ⟨_, Nat.le_refl _, Nat.le_refl _⟩
        obtain ⟨kz, hkz⟩ : ∃ kz : Int, kz = ((a + t : Nat) : Int) := ⟨_, rfl⟩
        rw [← hkz]
        obtain rfl : kz = (k : Int) := by omega
        clear hkz
        by_cases hkl : k + 1 < i
        · have hklz : (k : Int) < (i : Int) - 1 := by omega
          go_wp2_with fail
          have pa2 : (0 : Int) ≤ (k : Int) := by omega
          have ba2 : (k : Int) < (d0.size : Int) := by omega
          have pb2 : (0 : Int) ≤ (k : Int) + 1 := by omega
          have bb2 : (k : Int) + 1 < (d0.size : Int) := by omega
          have eb2 : ((k : Int) + 1).toNat = k + 1 := by omega
          have S2 : Aside (SWK encR 2 w0 blk off (swp dk k (k + 1)) ((wr.drew.setCells blk (off + k * 2) (encR dk[k + 1]!)).setCells blk (off + (k + 1) * 2) (encR dk[k]!))) := S1.out.swapped R k (k + 1) (by omega) (by omega)
          have l1 := S1.out.ld1 R hds Tryz.prog k (by omega)
          have l2 := S1.out.ld1 R hds Tryz.prog (k + 1) (by omega)
          have s1 := S1.out.st1 R hds Tryz.prog k (by omega) dk[k + 1]!
          have s2 := S1.out.st2 R hds Tryz.prog k (k + 1) (by omega) (by omega) dk[k + 1]! dk[k]!
          have n1 : (encR dk[k]!).length = 2 := R.hk _
          have n2 : (encR dk[k + 1]!).length = 2 := R.hk _
          generalize encR dk[k]! = cI at S2 l1 s2 n1
          generalize encR dk[k + 1]! = cJ at S2 l2 s1 s2 n2
          clear S1
          go_wp2_with fail
          go_big_region_o
          clear l1 l2 s1 s2
          generalize (wr.drew.setCells blk (off + k * 2) cJ).setCells blk (off + (k + 1) * 2) cI = w2 at S2 ⊢
          go_wp2
          go_roundg (i - 1 - (a + (t + 1)))
          case measure => omega
          case rel =>
            refine ⟨t + 1, by congr 1; omega, by omega, Nat.le_refl _, ?_⟩
            have e1 : shiftU d a (t + 1) = swp dk k (k + 1) := by
              rw [HD.out, show k = a + t by omega]; rfl
            rw [e1]; exact S2
        · have hklz : ¬ (k : Int) < (i : Int) - 1 := by omega
          go_wp2
          refine bodyPost_ret (results_none rfl _ _ _) rfl ?_
          have e1 : dk = shiftU d a (i - 1 - a) := by rw [HD.out, show t = i - 1 - a by omega]
          refine ⟨rfl, _, S1.out, ?_, ?_⟩
          · rw [e1]; exact shiftU_perm d a a b (Nat.le_refl _) (by omega) _ (by omega)
          · rw [e1]
            exact up_sorted HR.out HC.out (by omega) (by omega) (by omega) (fun h h1 h2 => BS.out.1 h (by omega) h2) (fun h h1 h2 => by have := BS.out.2 h (by omega) h2; omega)
end Go.Proofs.YtdnaegleifhmgaaGreat
end
section
namespace Go.Proofs.YtdnaegleifhmgaaGreat
open Go.RowKit Go.Lib Go.Tk Go.Sort Go.Shelf
attribute [-go_sem] loadCellsFrom
set_option maxHeartbeats 4000000 in
set_option maxRecDepth 1000000 in
theorem symLast_any (blk off cap a m b : Nat) (d0 d : RA) (w0 w : World) (R : RowK encR 2 w0 blk off d0) (hs : d.size = d0.size) (S : SWK encR 2 w0 blk off d w)
    (ham : a + 1 < m) (hmb : m < b) (hbz : b ≤ m + 1) (hb : b ≤ d0.size) (hsz : d0.size < 4611686018427387904) (hL : Srt d a m) (hC : Crs d a m (m + 1)) :
    Calls Tryz.prog 167 #[.slice (some ⟨blk, off, none⟩) d0.size cap, .int .i64 a, .int .i64 m, .int .i64 b, .func (.func 157) #[] #[]] w fun e w' =>
      e = .returned (.tuple #[]) ∧ ∃ d', SWK encR 2 w0 blk off d' w' ∧ PermIn a b d d' ∧ Srt d' a b := by
  have mixed := Tryz.mixed
  have S0 : Aside (SWK encR 2 w0 blk off d w) := S
  have HL : Aside (Srt d a m) := hL
  have HC : Aside (Crs d a m (m + 1)) := hC
  have t1 : ((m : Int) - (a : Int) == 1) = false := by simp; omega
  have t2 : ((b : Int) - (m : Int) == 1) = true := by simp; omega
  clear S hL hC
  go_enter Tryz.func167, Tryz.ntmps167
  go_wp2
  go_loopg [14, 15] (m - a) (fun kx s10 s11 wr => ∃ i j : Nat, s10 = .int .i64 i ∧ s11 = .int .i64 j ∧ a ≤ i ∧ i ≤ j ∧ j ≤ m ∧ j - i ≤ kx ∧ Aside (SWK encR 2 w0 blk off d wr) ∧
    Aside ((∀ h, a ≤ h → h < i → ¬ d[h]!.1 < d[m]!.1) ∧ (∀ h, j ≤ h → h < m → d[h]!.1 < d[m]!.1)))
  case atStart => exact ⟨a, m, rfl, rfl, by omega, by omega, by omega, by omega, S0, fun h _ _ => by omega, fun h _ _ => by omega⟩
  case round =>
    clear S0
    obtain ⟨i, j, rfl, rfl, hmi, hij, hjb, hkx, S1, BS⟩ := hrel
    by_cases hlt : i < j
    · have hltz : (i : Int) < (j : Int) := by omega
      obtain ⟨xh, hxh⟩ : ∃ x, d[(i + j) / 2]! = x := ⟨_, rfl⟩
      obtain ⟨xa, hxa⟩ : ∃ x, d[m]! = x := ⟨_, rfl⟩
      have lj := S1.out.ld R hs Tryz.prog ((i + j) / 2) (by omega)
      have la := S1.out.ld R hs Tryz.prog m (by omega)
      have hcg : ∀ n' os', Calls Tryz.prog 157 #[.agg (encR xa).toArray, .agg (encR xh).toArray] (grow (wr.drewN n') os') fun e w' => e = .returned (.int .i64 (cfR xa xh)) ∧ ∃ q os'', w' = grow ((grow (wr.drewN n') os').drewN q) os'' :=
        fun n os => S1.out.cmp (cmp_lays blk off d0.size w0) hs xa xh n os
      rw [hxh] at lj
      rw [hxa] at la
      have ph : (0 : Int) ≤ ((i : Int) + (j : Int)) / 2 := by omega
      have bh : ((i : Int) + (j : Int)) / 2 < (d0.size : Int) := by omega
      have eh : (((i : Int) + (j : Int)) / 2).toNat = (i + j) / 2 := by omega
      have pa : (0 : Int) ≤ (m : Int) := by omega
      have ba : (m : Int) < (d0.size : Int) := by omega
      have XH : Hid (d[(i + j) / 2]! = xh ∧ d[m]! = xa) := ⟨hxh, hxa⟩
      clear hxh hxa
      by_cases hlv : cfR xa xh < 0
      · go_wp2_with fail
        go_quiet_grown (first | (go_at_call 157; refine Calls.grown_of (hcg _ _)))
        have S2 : Aside (SWK encR 2 w0 blk off d (grow (wr.drewN nq) osq)) := S1.out.grown nq osq
        go_wp2
        go_roundg ((i + j) / 2 - i)
        case measure => omega
        case rel =>
          refine ⟨i, (i + j) / 2, rfl, by go_num, hmi, by omega, by omega, Nat.le_refl _, S2, BS.out.1, fun h h1 h2 => ?_⟩
          have e1 := (cfR_neg xa xh).1 hlv
          rw [← XH.out.1, ← XH.out.2] at e1
          have e2 := HL.out.le (i := (i + j) / 2) (j := h) (by omega) h1 h2
          omega
      · have hlb : (!decide (cfR xa xh < 0)) = true := by simp; omega
        go_wp2_with fail
        go_quiet_grown (first | (go_at_call 157; refine Calls.grown_of (hcg _ _)))
        have S2 : Aside (SWK encR 2 w0 blk off d (grow (wr.drewN nq) osq)) := S1.out.grown nq osq
        go_wp2
        go_roundg (j - ((i + j) / 2 + 1))
        case measure => omega
        case rel =>
          refine ⟨(i + j) / 2 + 1, j, by go_num, rfl, by omega, by omega, hjb, Nat.le_refl _, S2, fun h h1 h2 => ?_, BS.out.2⟩
          have e1 : ¬ xh.1 < xa.1 := fun k => by have := (cfR_neg xa xh).2 k; omega
          rw [← XH.out.1, ← XH.out.2] at e1
          have e2 := HL.out.le (i := h) (j := (i + j) / 2) (by omega) (by omega) (by omega)
          omega
    · have hltz : ¬ (i : Int) < (j : Int) := by omega
      go_wp2
      go_loopg [17] (m - i) (fun kx s13 wr => ∃ k t : Nat, s13 = .int .i64 (k : Int) ∧ m ≤ k + t ∧ k + t ≤ m ∧ i ≤ k ∧ k - i ≤ kx ∧ Aside (SWK encR 2 w0 blk off (shiftD d m t) wr))
      case atStart => exact ⟨m, 0, rfl, by omega, by omega, by omega, by omega, S1⟩
      case round =>
        clear S1
        obtain ⟨k, t, rfl, hk3, hk4, hik, hk2, S1⟩ := hrel
        obtain ⟨dk, hdk⟩ : ∃ dk, dk = shiftD d m t := ⟨_, rfl⟩
        have hds : dk.size = d0.size := by rw [hdk, size_shiftD]; exact hs
        have HD : Hid (dk = shiftD d m t) := hdk
        rw [← hdk] at S1
        clear hdk
        by_cases hkl : i < k
        · have hklz : (i : Int) < (k : Int) := by omega
          go_wp2_with fail
          have pa2 : (0 : Int) ≤ (k : Int) := by omega
          have ba2 : (k : Int) < (d0.size : Int) := by omega
          have pb2 : (0 : Int) ≤ (k : Int) - 1 := by omega
          have bb2 : (k : Int) - 1 < (d0.size : Int) := by omega
          have eb2 : ((k : Int) - 1).toNat = k - 1 := by omega
          have S2 : Aside (SWK encR 2 w0 blk off (swp dk k (k - 1)) ((wr.drew.setCells blk (off + k * 2) (encR dk[k - 1]!)).setCells blk (off + (k - 1) * 2) (encR dk[k]!))) := S1.out.swapped R k (k - 1) (by omega) (by omega)
          have l1 := S1.out.ld1 R hds Tryz.prog k (by omega)
          have l2 := S1.out.ld1 R hds Tryz.prog (k - 1) (by omega)
          have s1 := S1.out.st1 R hds Tryz.prog k (by omega) dk[k - 1]!
          have s2 := S1.out.st2 R hds Tryz.prog k (k - 1) (by omega) (by omega) dk[k - 1]! dk[k]!
          have n1 : (encR dk[k]!).length = 2 := R.hk _
          have n2 : (encR dk[k - 1]!).length = 2 := R.hk _
          generalize encR dk[k]! = cI at S2 l1 s2 n1
          generalize encR dk[k - 1]! = cJ at S2 l2 s1 s2 n2
          clear S1
          go_wp2_with fail
          go_big_region_o
          clear l1 l2 s1 s2
          generalize (wr.drew.setCells blk (off + k * 2) cJ).setCells blk (off + (k - 1) * 2) cI = w2 at S2 ⊢
          go_wp2
          go_roundg (k - 1 - i)
          case measure => omega
          case rel =>
            refine ⟨k - 1, t + 1, by go_num, by omega, by omega, by omega, Nat.le_refl _, ?_⟩
            have e1 : shiftD d m (t + 1) = swp dk k (k - 1) := by
              rw [HD.out, show k = m - t by omega]; rfl
            rw [e1]; exact S2
        · have hklz : ¬ (i : Int) < (k : Int) := by omega
          go_wp2
          refine bodyPost_ret (results_none rfl _ _ _) rfl ?_
          have e1 : dk = shiftD d m (m - i) := by rw [HD.out, show t = m - i by omega]
          have e2 : b = m + 1 := by omega
          subst e2
          refine ⟨rfl, _, S1.out, ?_, ?_⟩
          · rw [e1]; exact shiftD_perm d m a (m + 1) (by omega) (by omega) _ (by omega)
          · rw [e1]
            exact down_sorted HL.out HC.out (by omega) (by omega) (by omega) (fun h h1 h2 => by have := BS.out.1 h h1 h2; omega) (fun h h1 h2 => BS.out.2 h (by omega) h2)
end Go.Proofs.YtdnaegleifhmgaaGreat
end
