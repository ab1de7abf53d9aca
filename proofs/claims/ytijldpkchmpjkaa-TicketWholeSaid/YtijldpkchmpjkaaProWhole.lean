/- ProrateWhole: the shares make up the total, to the unit. -/
import Derived.Test.YtijldpkchmpjkaaProTells
import Derived.Test.YtijldpkchmpjkaaMoneyOrder
import Derived.Deep.LoopGhost
import Derived.Deep.DeepCutAuto
namespace Go.Proofs.Ytijldpkchmpjkaa
open Go.RowKit Go.Lib Go.Tk Go.Sort Go.Shelf

theorem whole_at {t : Int} {ws : List Int} (ha : 0 < ws.sum) {i : Nat} (hi : i < ws.length) :
    ((shareL t ws).getD i 0 = wh t ws.sum (ws.getD i 0) ∨ ((shareL t ws).getD i 0 = wh t ws.sum (ws.getD i 0) + 1 ∧ rs t ws.sum (ws.getD i 0) ≠ 0)) ∧ (ws.getD i 0 = 0 → (shareL t ws).getD i 0 = 0) := by
  rw [shareL_get _ _ _ hi]
  by_cases hc : chosen (restsL t ws.sum ws) (leftN t ws.sum ws) i = true
  · have := chosen_rest t ws ha hc
    rw [if_pos hc]
    refine ⟨.inr ⟨rfl, by omega⟩, fun h => ?_⟩
    rw [h] at this
    unfold rs at this; simp at this
  · rw [if_neg hc]
    refine ⟨.inl (by omega), fun h => ?_⟩
    rw [h]; unfold wh; simp

theorem shareL_bd {t : Int} {ws : List Int} (hp : PosRow ws) (ha : 0 < ws.sum) (ht : 0 ≤ t) {i : Nat} (hi : i < ws.length) : 0 ≤ (shareL t ws).getD i 0 ∧ (shareL t ws).getD i 0 ≤ t + 1 := by
  rw [shareL_get _ _ _ hi]
  have hx := posrow_get hp hi
  have e : ws.getD i 0 = ws[i] := by simp [List.getD_eq_getElem?_getD, hi]
  have := wh_bd (t := t) (S := ws.sum) ht ha hx.1 (by rw [e]; exact le_sum ws (fun y hy => (hp y hy).1) _ (List.getElem_mem hi))
  split <;> omega

theorem share_sum_ok {t : Int} {ws : List Int} (hp : PosRow ws) (ha : 0 < ws.sum) (ht : 0 ≤ t) (ht1 : t ≤ 1125899906842624) : sumFrom 0 (shareL t ws) = (t, 0) := by
  rw [sumFrom_nn _ 0 (by decide) (by omega) (fun x hx => ?_), shareL_sum t ws ha]
  · have : mayI t = true := by simp [mayI, ht1]; omega
    simp [this]
  · obtain ⟨i, hi, rfl⟩ := List.getElem_of_mem hx
    have hi' : i < ws.length := by rw [shareL_len] at hi; exact hi
    have := (shareL_bd hp ha ht hi').1
    simpa [List.getD_eq_getElem?_getD, hi] using this

set_option maxHeartbeats 4000000 in
set_option maxRecDepth 100000 in
theorem whole_walk (t : Int) (a : Option Addr) (len cap : Nat) (zs : List Int) (w : World) (_wt : (Lit.int .i64 t).wf = true) (hrow : IsRow .u32 w a len cap zs) :
    Calls Try.prog 7 #[.int .i64 t, .slice a len cap] w fun e w' => e = .returned (.bool true) ∧ Below w.heap.size w w' := by
  obtain ⟨xs, rfl, hr, hm, hc, hwf⟩ := hrow.row
  unfold maxLen at hm
  have Hr := hid hr
  have HP : Aside (PosRow xs) := fun x hx => wf32 (hwf x hx)
  clear hr hc hrow hwf
  by_cases hl : 64 < xs.length
  · have hl' : (64 : Int) < (xs.length : Int) := by omega
    go_enter Try.func7, Try.ntmps7
    go_wp2_with fail
    refine (wakes6 _).mono ?_
    rintro e w4 ⟨rfl, k4⟩
    go_wp2
    go_ret
    exact ⟨rfl, k4⟩
  have hl' : ¬ (64 : Int) < (xs.length : Int) := by omega
  by_cases hz : shareE t xs = 0
  · have hlen := shareV_len hz
    have hS : 0 < xs.sum := by
      have h1 : xs.sum ≠ 0 := fun e => by unfold shareE at hz; rw [if_neg hl, if_pos e] at hz; cases hz
      have := (take_sum_bd HP.out xs.length).1
      rw [List.take_length] at this; omega
    have hS1 : xs.sum ≤ 274877906880 := by
      have := (take_sum_bd HP.out xs.length).2
      rw [List.take_length] at this
      have : (xs.length : Int) * 4294967295 ≤ 64 * 4294967295 := Int.mul_le_mul_of_nonneg_right (by omega) (by omega)
      omega
    obtain ⟨ht0, ht1⟩ : 0 ≤ t ∧ t ≤ 1125899906842624 := by
      unfold shareE at hz
      rw [if_neg hl, if_neg (by omega)] at hz
      split at hz
      · assumption
      · cases hz
    have hV : shareV t xs = shareL t xs := by unfold shareV; rw [if_pos hz]
    have HV := hid hV
    have HZ := hid hz
    have hsum := share_sum_ok HP.out hS ht0 ht1
    have HSUM := hid hsum
    obtain ⟨S, hSe⟩ : ∃ S, S = xs.sum := ⟨_, rfl⟩
    have HS := hid hSe
    have hS0 : 0 < S := by omega
    have hS2 : S ≤ 274877906880 := by omega
    have KEY := hid (share_row t xs a _ cap w rfl Hr.out HP.out hm)
    clear hV hz hsum hSe hS hS1
    go_enter Try.func7, Try.ntmps7
    go_wp2_with fail
    refine KEY.out.mono ?_
    rintro e w2 ⟨a2, c2, rfl, r2, hb2, m2⟩
    rw [hlen, HZ.out]
    rw [HV.out] at r2
    have R2 := hid r2
    have B2 : Aside (Below w.heap.size w w2) := hb2
    clear r2 hb2 m2 KEY hlen
    go_wp2
    go_loop [7, 8] (fun s i => ∃ (k : Nat) (x : Int), k ≤ xs.length ∧ i = .int .i64 k ∧ s = .int .i64 x ∧ Hid (x = (xs.take k).sum) ∧ 0 ≤ x ∧ x ≤ k * 4294967295) (fun _ i => xs.length - (intOf i).toNat)
    case atStart => exact ⟨0, 0, Nat.zero_le _, rfl, rfl, hid (by simp), by omega, by omega⟩
    case round =>
      obtain ⟨k, s, hk, rfl, rfl, hs, hs0, hs1⟩ := hrel
      by_cases hlt : k < xs.length
      · obtain ⟨b, off, rfl, hc⟩ := (Hr.out.kept B2.out).int k hlt
        have hx := posrow_get HP.out hlt
        generalize hxe : xs.getD k 0 = x at *
        have HX := hid hxe
        clear hxe
        go_wp2
        go_round
        case rel => exact ⟨k + 1, s + x, by omega, by go_num, rfl, hid (by rw [sum_take_succ hlt, ← hs.out, HX.out]), by omega, by omega⟩
        case measure => simp [intOf]; omega
      · obtain rfl : k = xs.length := by omega
        have hsum : s = S := by rw [hs.out, List.take_length, HS.out]
        clear hs hs0 hs1 hk hlt
        subst hsum
        go_wp2_with fail
        refine (sum_anyN a2 xs.length c2 (shareL t xs) _ (shareL_len _ _) R2.out (by rw [shareL_len]; exact hm)).mono ?_
        rintro e w3 ⟨rfl, hb3⟩
        rw [HSUM.out]
        have R3 := hid (R2.out.kept hb3)
        have B3 : Aside (Below w.heap.size w w3) := bt B2.out hb3
        clear hb3 R2 B2
        go_wp2
        go_loopg [11] xs.length (fun kx s11 wr => ∃ i : Nat, s11 = .int .i64 i ∧ i ≤ xs.length ∧ xs.length - i ≤ kx ∧ Aside (Below w3.heap.size w3 wr))
        case atStart => exact ⟨0, rfl, by omega, by omega, Below.refl _ _⟩
        case round =>
          obtain ⟨i, rfl, hi, hkx, hbel⟩ := hrel
          by_cases hlt : i < xs.length
          · obtain ⟨b, off, rfl, hc⟩ := (Hr.out.kept (bt B3.out hbel.out)).int i hlt
            have hx := posrow_get HP.out hlt
            have hxs : xs.getD i 0 ≤ s := by
              have e : xs.getD i 0 = xs[i] := by simp [List.getD_eq_getElem?_getD, hlt]
              rw [HS.out, e]; exact le_sum xs (fun y hy => (HP.out y hy).1) _ (List.getElem_mem hlt)
            have hat := whole_at (t := t) (by rw [← HS.out]; exact hS0) hlt
            rw [← HS.out] at hat
            generalize hxe : xs.getD i 0 = x at *
            have HX := hid hxe
            have hp := partOk_of ht0 ht1 hS0 hS2 hx.1 hxs
            have e1 : partW t x s = wh t s x := by unfold partW; rw [if_pos hp]; rfl
            have e2 : partR t x s = rs t s x := by unfold partR; rw [if_pos hp]; rfl
            have e3 : partE t x s = 0 := by unfold partE; rw [if_pos hp]
            have hw1 := wh_bd ht0 hS0 hx.1 hxs
            have key := part_any t x s wr
            rw [e1, e2, e3] at key
            have KEY := hid key
            clear key e1 e2 e3 hp hxe
            generalize wh t s x = W at *
            generalize rs t s x = r at *
            obtain ⟨y, hy⟩ : ∃ y, y = (shareL t xs).getD i 0 := ⟨_, rfl⟩
            rw [← hy] at hat
            have HY := hid hy
            have HAT := hid hat
            clear hat hy
            go_wp2_with fail
            refine KEY.out.mono ?_
            rintro e w4 ⟨rfl, hb4⟩
            go_upto_region 18 with fail
            obtain ⟨b2, o2, rfl, hc2⟩ := (R3.out.kept (bt hbel.out hb4)).int i (by rw [shareL_len]; exact hlt)
            rw [← HY.out] at hc2
            obtain ⟨b1, o1, hb1e, hc1⟩ := (Hr.out.kept (bt (bt B3.out hbel.out) hb4)).int i hlt
            cases hb1e
            rw [HX.out] at hc1
            have p0 : (0 : Int) ≤ (i : Int) := by omega
            have p1 : (i : Int) < (xs.length : Int) := by omega
            have B4 : Aside (Below w3.heap.size w3 w4) := bt hbel.out hb4
            clear hb4 hc KEY hbel
            go_cut [128] from 66 to 181 (fun s128 wx => s128 = .bool false ∧ wx = w4)
            case first =>
              have hat := HAT.out
              obtain ⟨h1, h2⟩ := hat
              rcases h1 with h1 | ⟨h1, h3⟩
              · subst h1
                by_cases hxz : x = 0
                · have h2' := h2 hxz
                  subst h2'
                  subst hxz
                  clear h2
                  by_cases hrz : r = 0
                  · subst hrz
                    go_wp2
                    go_meet
                    case rel => exact ⟨rfl, rfl⟩
                  · have d1 : (r == 0) = false := by simpa using hrz
                    clear hrz
                    go_wp2
                    go_meet
                    case rel => exact ⟨rfl, rfl⟩
                · have d2 : (x == 0) = false := by simpa using hxz
                  clear h2 hxz
                  by_cases hrz : r = 0
                  · subst hrz
                    go_wp2
                    go_meet
                    case rel => exact ⟨rfl, rfl⟩
                  · have d1 : (r == 0) = false := by simpa using hrz
                    clear hrz
                    go_wp2
                    go_meet
                    case rel => exact ⟨rfl, rfl⟩
              · have d1 : (r == 0) = false := by simpa using h3
                have hxz : x ≠ 0 := fun e => by have := h2 e; omega
                have d2 : (x == 0) = false := by simpa using hxz
                subst h1
                have d3 : (W + 1 != W) = true := by rw [bne_iff_ne]; omega
                clear h2 h3 hxz
                go_wp2
                go_meet
                case rel => exact ⟨rfl, rfl⟩
            case rest =>
            obtain ⟨rfl, rfl⟩ := hcut
            go_wp2
            go_loopg [15] xs.length (fun gx s15 wr => ∃ k : Nat, s15 = .int .i64 k ∧ k ≤ xs.length ∧ xs.length - k ≤ gx ∧ Aside (Below w3.heap.size w3 wr))
            case atStart => exact ⟨0, rfl, by omega, by omega, B4⟩
            case round =>
              clear hc2 hc1
              obtain ⟨k, rfl, hk, hkx2, hb5⟩ := hrel
              by_cases hlk : k < xs.length
              · obtain ⟨_, _, he, c1⟩ := (Hr.out.kept (bt B3.out hb5.out)).int i hlt
                cases he
                obtain ⟨_, _, he, c2⟩ := (Hr.out.kept (bt B3.out hb5.out)).int k hlk
                cases he
                obtain ⟨_, _, he, c3⟩ := (R3.out.kept hb5.out).int i (by rw [shareL_len]; exact hlt)
                cases he
                obtain ⟨_, _, he, c4⟩ := (R3.out.kept hb5.out).int k (by rw [shareL_len]; exact hlk)
                cases he
                have mo1 := shareL_mono t xs (by rw [← HS.out]; exact hS0) ht0 hlt hlk
                have mo2 := shareL_mono t xs (by rw [← HS.out]; exact hS0) ht0 hlk hlt
                rw [HX.out] at c1 mo1 mo2
                rw [← HY.out] at c3 mo1 mo2
                generalize xs.getD k 0 = z at *
                generalize (shareL t xs).getD k 0 = v at *
                have p2 : (0 : Int) ≤ (k : Int) := by omega
                have p3 : (k : Int) < (xs.length : Int) := by omega
                rcases Int.lt_trichotomy x z with h | h | h
                · have d1 : decide (x < z) = true := decide_eq_true h
                  have d2 : decide (y > v) = false := decide_eq_false (by have := mo1 (.inl h); omega)
                  have d3 : (x == z) = false := by rw [beq_eq_false_iff_ne]; omega
                  clear mo1 mo2 h
                  go_wp2_with fail
                  go_quiet (fail)
                  go_wp2
                  go_roundg (xs.length - (k + 1))
                  case measure => omega
                  case rel => exact ⟨k + 1, by go_num, by omega, Nat.le_refl _, bt hb5.out (drewN_below _ _)⟩
                · subst h
                  by_cases hik : i < k
                  · have d1 : decide (x < x) = false := decide_eq_false (by omega)
                    have d3 : (x == x) = true := by simp
                    have d4 : decide (i < k) = true := decide_eq_true (by omega)
                    have d5 : decide (y < v) = false := decide_eq_false (by have := mo2 (.inr ⟨rfl, hik⟩); omega)
                    clear mo1 mo2 hik
                    go_wp2_with fail
                    go_quiet (fail)
                    go_wp2
                    go_roundg (xs.length - (k + 1))
                    case measure => omega
                    case rel => exact ⟨k + 1, by go_num, by omega, Nat.le_refl _, bt hb5.out (drewN_below _ _)⟩
                  · have d1 : decide (x < x) = false := decide_eq_false (by omega)
                    have d3 : (x == x) = true := by simp
                    have d4 : decide (i < k) = false := decide_eq_false (by omega)
                    clear mo1 mo2 hik
                    go_wp2_with fail
                    go_quiet (fail)
                    go_wp2
                    go_roundg (xs.length - (k + 1))
                    case measure => omega
                    case rel => exact ⟨k + 1, by go_num, by omega, Nat.le_refl _, bt hb5.out (drewN_below _ _)⟩
                · have d1 : decide (x < z) = false := decide_eq_false (by omega)
                  have d3 : (x == z) = false := by rw [beq_eq_false_iff_ne]; omega
                  clear mo1 mo2 h
                  go_wp2_with fail
                  go_quiet (fail)
                  go_wp2
                  go_roundg (xs.length - (k + 1))
                  case measure => omega
                  case rel => exact ⟨k + 1, by go_num, by omega, Nat.le_refl _, bt hb5.out (drewN_below _ _)⟩
              · obtain rfl : k = xs.length := by omega
                go_wp2
                go_roundg (xs.length - (i + 1))
                case measure => omega
                case rel => exact ⟨i + 1, by go_num, by omega, Nat.le_refl _, hb5⟩
          · obtain rfl : i = xs.length := by omega
            go_wp2_with fail
            refine (wakes6 _).mono ?_
            rintro e w4 ⟨rfl, k4⟩
            go_wp2
            go_ret
            exact ⟨rfl, bt (bt B3.out hbel.out) k4⟩
  · have hV := shareV_bad hz
    have hne : (shareE t xs != 0) = true := by simp [hz]
    have KEY := hid (share_row t xs a _ cap w rfl Hr.out HP.out hm)
    have HV := hid hV
    clear hz hV
    go_enter Try.func7, Try.ntmps7
    go_wp2_with fail
    refine KEY.out.mono ?_
    rintro e w2 ⟨a2, c2, rfl, r2, hb2, m2⟩
    rw [HV.out]
    clear r2 m2
    go_wp2_with fail
    refine (wakes6 _).mono ?_
    rintro e w4 ⟨rfl, k4⟩
    go_wp2
    go_ret
    exact ⟨rfl, bt hb2 k4⟩
end Go.Proofs.Ytijldpkchmpjkaa
