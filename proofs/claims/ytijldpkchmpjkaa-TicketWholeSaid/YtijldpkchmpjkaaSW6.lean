/- PRORATE: the stable sort of rests, walked: SW6. -/
import Derived.Test.YtijldpkchmpjkaaSW2
import Derived.Sort.WalkA
namespace Go.Proofs.Ytijldpkchmpjkaa
open Go.RowKit Go.Lib Go.Tk Go.Sort Go.Shelf
attribute [-go_sem] loadCellsFrom

set_option maxHeartbeats 4000000 in
set_option maxRecDepth 1000000 in
theorem insertion_any (blk off cap a b : Nat) (d0 d : RA) (w0 w : World) (R : RowK encR 2 w0 blk off d0) (hs : d.size = d0.size) (S : SWK encR 2 w0 blk off d w)
    (hab : a ≤ b) (hb : b ≤ d0.size) (hsz : d0.size < 4611686018427387904) :
    Calls Try.prog 68 #[.slice (some ⟨blk, off, none⟩) d0.size cap, .int .i64 a, .int .i64 b, .func (.func 33) #[] #[]] w fun e w' =>
      e = .returned (.tuple #[]) ∧ SWK encR 2 w0 blk off (insertionSort ltR d a b) w' := by
  have mixed := Try.mixed
  have S0 : Aside (SWK encR 2 w0 blk off d w) := S
  clear S
  go_enter Try.func68, Try.ntmps68
  go_wp2
  go_loopg [8] (b - a) (fun g1 vi wr => ∃ (i : Nat) (dk : RA), vi = .int .i64 i ∧ a < i ∧ i ≤ b + 1 ∧ b + 1 - i ≤ g1 + 1 ∧ dk.size = d0.size ∧ Aside (SWK encR 2 w0 blk off dk wr) ∧ Hid (insOuter ltR a b i dk = insOuter ltR a b (a + 1) d))
  case atStart => exact ⟨a + 1, d, by go_num, by omega, by omega, by omega, hs, S0, rfl⟩
  case round =>
    clear S0
    obtain ⟨i, dk, rfl, hai, hib, hg1, hsk, S1, HO⟩ := hrel
    by_cases hlt : i < b
    · have hltz : (i : Int) < (b : Int) := by omega
      go_wp2
      go_loopg [9] i (fun g2 vj wr2 => ∃ (j : Nat) (dj : RA), vj = .int .i64 j ∧ a ≤ j ∧ j ≤ i ∧ j ≤ g2 ∧ dj.size = d0.size ∧ Aside (SWK encR 2 w0 blk off dj wr2) ∧ Hid (insInner ltR a j dj = insInner ltR a i dk))
      case atStart => exact ⟨i, dk, rfl, by omega, Nat.le_refl _, Nat.le_refl _, hsk, S1, rfl⟩
      case round =>
        clear S1
        obtain ⟨j, dj, rfl, haj, hji, hg2, hsj, S2, HI⟩ := hrel
        have out : (j ≤ a ∨ ltR dj[j]! dj[j - 1]! = false) → Hid (insOuter ltR a b (i + 1) dj = insOuter ltR a b (a + 1) d) := fun hs => by
          show _ = _
          rw [← HO.out, insOuter_go _ _ _ _ _ hlt, ← HI.out, insInner_stop _ _ _ _ hs]
        have OUT : Aside _ := out
        clear out
        by_cases hja : a < j
        · obtain ⟨jp, rfl⟩ : ∃ jp, j = jp + 1 := ⟨j - 1, by omega⟩
          obtain ⟨xj, hxj⟩ : ∃ x, dj[jp + 1]! = x := ⟨_, rfl⟩
          obtain ⟨xp, hxp⟩ : ∃ x, dj[jp]! = x := ⟨_, rfl⟩
          have lj := S2.out.ld R hsj Try.prog (jp + 1) (by omega)
          have lp := S2.out.ld R hsj Try.prog jp (by omega)
          have hcg : ∀ n' os', Calls Try.prog 33 #[.agg (encR xj).toArray, .agg (encR xp).toArray] (grow (wr.drewN n') os') fun e w' => e = .returned (.int .i64 (cfR xj xp)) ∧ ∃ q os'', w' = grow ((grow (wr.drewN n') os').drewN q) os'' :=
            fun n os => S2.out.cmp (cmp_lays blk off d0.size w0) hsj xj xp n os
          rw [hxj] at lj
          rw [hxp] at lp
          have XH : Hid (dj[jp + 1]! = xj ∧ dj[jp]! = xp) := ⟨hxj, hxp⟩
          clear hxj hxp
          have f1 : (a : Int) < (jp : Int) + 1 := by omega
          have f2 : (0 : Int) ≤ (jp : Int) + 1 := by omega
          have f3 : (jp : Int) + 1 < (d0.size : Int) := by omega
          have f4 : ((jp : Int) + 1).toNat = jp + 1 := by omega
          have f5 : (0 : Int) ≤ (jp : Int) := by omega
          have f6 : (jp : Int) < (d0.size : Int) := by omega
          have f7 : IntKind.i64.wrap (jp : Int) = (jp : Int) := by rw [IntKind.wrap_i64]; omega
          have f8 : (jp : Int) + 1 - 1 = (jp : Int) := by omega
          by_cases hlv : cfR xj xp < 0
          · go_wp2_with fail
            go_quiet_grown (first | (go_at_call 33; refine Calls.grown_of (hcg _ _)))
            have S3 : Aside (SWK encR 2 w0 blk off dj (grow (wr.drewN nq) osq)) := S2.out.grown nq osq
            clear S2 lj lp hcg
            generalize grow (wr.drewN nq) osq = w3 at S3 ⊢
            go_wp2_with fail
            have S4 : Aside (SWK encR 2 w0 blk off (swp dj (jp + 1) jp) ((w3.drew.setCells blk (off + (jp + 1) * 2) (encR dj[jp]!)).setCells blk (off + jp * 2) (encR dj[jp + 1]!))) := S3.out.swapped R (jp + 1) jp (by omega) (by omega)
            have l1 := S3.out.ld1 R hsj Try.prog (jp + 1) (by omega)
            have l2 := S3.out.ld1 R hsj Try.prog jp (by omega)
            have s1 := S3.out.st1 R hsj Try.prog (jp + 1) (by omega) dj[jp]!
            have s2 := S3.out.st2 R hsj Try.prog (jp + 1) jp (by omega) (by omega) dj[jp]! dj[jp + 1]!
            have n1 : (encR dj[jp + 1]!).length = 2 := R.hk _
            have n2 : (encR dj[jp]!).length = 2 := R.hk _
            generalize encR dj[jp + 1]! = cI at S4 l1 s2 n1
            generalize encR dj[jp]! = cJ at S4 l2 s1 s2 n2
            clear S3
            go_wp2_with fail
            go_big_region_o
            clear l1 l2 s1 s2
            generalize (w3.drew.setCells blk (off + (jp + 1) * 2) cJ).setCells blk (off + jp * 2) cI = w2 at S4 ⊢
            go_wp2
            go_roundg jp
            case measure => omega
            case rel =>
              refine ⟨jp, swp dj (jp + 1) jp, by first | rfl | go_num | (congr 1; omega), by omega, by omega, Nat.le_refl _, by rw [size_swp]; exact hsj, S4, (show Hid _ from ?_)⟩
              show _ = _
              have e1 := insInner_go ltR a (jp + 1) dj hja (by simp only [Nat.add_sub_cancel]; rw [XH.out.1, XH.out.2]; exact decide_eq_true hlv)
              simp only [Nat.add_sub_cancel] at e1
              rw [← HI.out, e1]
          · go_wp2_with fail
            go_quiet_grown (first | (go_at_call 33; refine Calls.grown_of (hcg _ _)))
            have S3 : Aside (SWK encR 2 w0 blk off dj (grow (wr.drewN nq) osq)) := S2.out.grown nq osq
            go_wp2
            go_roundg (b - (i + 1))
            case measure => omega
            case rel => exact ⟨i + 1, dj, by go_num, by omega, by omega, by omega, hsj, S3, OUT.out (Or.inr (by simp only [Nat.add_sub_cancel]; rw [XH.out.1, XH.out.2]; exact decide_eq_false (by omega)))⟩
        · have hjaz : decide ((j : Int) > (a : Int)) = false := decide_eq_false (by omega)
          have hjaz' : ¬ (a : Int) < (j : Int) := by omega
          have S3 : Aside (SWK encR 2 w0 blk off dj wr.drew) := S2.out.drew
          clear S2
          go_wp2_with fail
          go_big_region_o
          all_goals go_wp2
          go_roundg (b - (i + 1))
          case measure => omega
          case rel => exact ⟨i + 1, dj, by go_num, by omega, by omega, by omega, hsj, S3, OUT.out (Or.inl (by omega))⟩
    · have hltz : ¬ (i : Int) < (b : Int) := by omega
      go_wp2
      go_end0
      refine ⟨rfl, ?_⟩
      have : insertionSort ltR d a b = dk := by unfold insertionSort; rw [← HO.out, insOuter_stop _ _ _ _ _ hlt]
      rw [this]; exact S1.out
end Go.Proofs.Ytijldpkchmpjkaa
