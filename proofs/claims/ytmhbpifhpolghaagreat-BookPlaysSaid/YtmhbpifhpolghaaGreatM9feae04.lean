/- SW5, SW6, SW7, SW8, Share1. -/
import Derived.Test.YtmhbpifhpolghaaGreatM20a089e
import Derived.Deep.DeepCutAuto
import Derived.Sort.WalkA
import Derived.Test.YtmhbpifhpolghaaGreatRows
set_option maxRecDepth 100000
set_option linter.unusedVariables false
set_option linter.unusedSimpArgs false
set_option linter.unusedSectionVars false
section
namespace Go.Proofs.YtmhbpifhpolghaaGreat
open Go.RowKit Go.Lib Go.Tk Go.Sort Go.Shelf
attribute [-go_sem] loadCellsFrom
set_option maxHeartbeats 4000000 in
set_option maxRecDepth 1000000 in
theorem symMany_any (blk off cap a m b : Nat) (d0 d : RA) (w0 w : World) (R : RowK encR 2 w0 blk off d0) (hs : d.size = d0.size) (S : SWK encR 2 w0 blk off d w)
    (IH : ∀ (a' m' b' : Nat) (d' : RA) (w' : World), b' - a' < b - a → d'.size = d0.size → SWK encR 2 w0 blk off d' w' → a' < m' → m' < b' → b' ≤ d0.size → Srt d' a' m' → Srt d' m' b' → Crs d' a' m' b' →
      Calls Tryz.prog 213 #[.slice (some ⟨blk, off, none⟩) d0.size cap, .int .i64 a', .int .i64 m', .int .i64 b', .func (.func 135) #[] #[]] w' fun e w'' =>
        e = .returned (.tuple #[]) ∧ ∃ d'', SWK encR 2 w0 blk off d'' w'' ∧ PermIn a' b' d' d'' ∧ Srt d'' a' b')
    (ham : a + 1 < m) (hmb : m + 1 < b) (hb : b ≤ d0.size) (hsz : d0.size < 4611686018427387904) (hL : Srt d a m) (hR : Srt d m b) (hC : Crs d a m b) :
    Calls Tryz.prog 213 #[.slice (some ⟨blk, off, none⟩) d0.size cap, .int .i64 a, .int .i64 m, .int .i64 b, .func (.func 135) #[] #[]] w fun e w' =>
      e = .returned (.tuple #[]) ∧ ∃ d', SWK encR 2 w0 blk off d' w' ∧ PermIn a b d d' ∧ Srt d' a b := by
  have mixed := Tryz.mixed
  have S0 : Aside (SWK encR 2 w0 blk off d w) := S
  have HL : Aside (Srt d a m) := hL
  have HR : Aside (Srt d m b) := hR
  have HC : Aside (Crs d a m b) := hC
  have I := hid IH
  have t1 : ((m : Int) - (a : Int) == 1) = false := by simp; omega
  have t2 : ((b : Int) - (m : Int) == 1) = false := by simp; omega
  clear S hL hR hC IH
  go_enter Tryz.func213, Tryz.ntmps213
  go_upto_if 140 with fail
  have hm1 : 2 * (((a : Int) + (b : Int)) / 2) ≤ a + b := by omega
  have hm2 : (a : Int) + b ≤ 2 * (((a : Int) + (b : Int)) / 2) + 1 := by omega
  generalize ((a : Int) + (b : Int)) / 2 = mz at hm1 hm2 ⊢
  obtain ⟨mid, rfl⟩ : ∃ mid : Nat, mz = (mid : Int) := ⟨mz.toNat, by omega⟩
  go_cut [20, 21] from 138 to 146 (fun s20 s21 wx => wx = w ∧ ∃ s0 r0 : Nat, s20 = .int .i64 (s0 : Int) ∧ s21 = .int .i64 (r0 : Int) ∧ Aside (Mid a m b mid s0 r0))
  case first =>
    by_cases hm : mid < m
    · have hmz : (mid : Int) < (m : Int) := by omega
      go_wp2
      go_meet
      case rel => exact ⟨rfl, mid + m - b, mid, by go_num, rfl, ⟨by omega, by omega, .inl ⟨hm, rfl, rfl⟩⟩⟩
    · have hmz : ¬ (mid : Int) < (m : Int) := by omega
      go_wp2
      go_meet
      case rel => exact ⟨rfl, a, m, rfl, rfl, ⟨by omega, by omega, .inr ⟨by omega, rfl, rfl⟩⟩⟩
  case rest =>
  obtain ⟨rfl, s0, r0, rfl, rfl, MD⟩ := hcut
  obtain ⟨c1, c2, c3, c4, c5, c6, c7, c8⟩ := cut_at (by omega) (by omega) MD.out
  have C5 := hid c5
  have C7 := hid c7
  have C8 := hid c8
  clear c5 c7 c8
  go_wp2
  go_loopg [20, 21] (r0 - s0) (fun kx s20 s21 wr => ∃ i j : Nat, s20 = .int .i64 (i : Int) ∧ s21 = .int .i64 (j : Int) ∧ s0 ≤ i ∧ i ≤ j ∧ j ≤ r0 ∧ j - i ≤ kx ∧ Aside (SWK encR 2 w0 blk off d wr) ∧
    Aside ((∀ c, s0 ≤ c → c < i → ¬ d[c]!.1 < d[mid + m - 1 - c]!.1) ∧ (∀ c, j ≤ c → c < r0 → d[c]!.1 < d[mid + m - 1 - c]!.1)))
  case atStart => exact ⟨s0, r0, rfl, rfl, by omega, by omega, by omega, by omega, S0, fun h _ _ => by omega, fun h _ _ => by omega⟩
  case round =>
    clear S0
    obtain ⟨i, j, rfl, rfl, hmi, hij, hjb, hkx, S1, BS⟩ := hrel
    by_cases hlt : i < j
    · have hltz : (i : Int) < (j : Int) := by omega
      obtain ⟨x1, x2⟩ := C5.out ((i + j) / 2) (by omega) (by omega)
      obtain ⟨xh, hxh⟩ : ∃ x, d[(i + j) / 2]! = x := ⟨_, rfl⟩
      obtain ⟨xa, hxa⟩ : ∃ x, d[mid + m - 1 - (i + j) / 2]! = x := ⟨_, rfl⟩
      have lj := S1.out.ld R hs Tryz.prog ((i + j) / 2) (by omega)
      have la := S1.out.ld R hs Tryz.prog (mid + m - 1 - (i + j) / 2) (by omega)
      have hcg : ∀ n' os', Calls Tryz.prog 135 #[.agg (encR xa).toArray, .agg (encR xh).toArray] (grow (wr.drewN n') os') fun e w' => e = .returned (.int .i64 (cfR xa xh)) ∧ ∃ q os'', w' = grow ((grow (wr.drewN n') os').drewN q) os'' :=
        fun n os => S1.out.cmp (cmp_lays blk off d0.size w0) hs xa xh n os
      rw [hxh] at lj
      rw [hxa] at la
      have ph : (0 : Int) ≤ ((i : Int) + (j : Int)) / 2 := by omega
      have bh : ((i : Int) + (j : Int)) / 2 < (d0.size : Int) := by omega
      have eh : (((i : Int) + (j : Int)) / 2).toNat = (i + j) / 2 := by omega
      have pa : (0 : Int) ≤ (mid : Int) + (m : Int) - 1 - ((i : Int) + (j : Int)) / 2 := by omega
      have wa : IntKind.i64.wrap ((mid : Int) + (m : Int) - 1 - ((i : Int) + (j : Int)) / 2) = (mid : Int) + (m : Int) - 1 - ((i : Int) + (j : Int)) / 2 := by rw [IntKind.wrap_i64]; omega
      have pa' : ((i : Int) + (j : Int)) / 2 ≤ (mid : Int) + (m : Int) - 1 := by omega
      have ba : (mid : Int) + (m : Int) - 1 - ((i : Int) + (j : Int)) / 2 < (d0.size : Int) := by omega
      have ea : ((mid : Int) + (m : Int) - 1 - ((i : Int) + (j : Int)) / 2).toNat = mid + m - 1 - (i + j) / 2 := by omega
      have XH : Hid (d[(i + j) / 2]! = xh ∧ d[mid + m - 1 - (i + j) / 2]! = xa) := ⟨hxh, hxa⟩
      clear hxh hxa
      by_cases hlv : cfR xa xh < 0
      · go_wp2_with fail
        go_quiet_grown (first | (go_at_call 135; refine Calls.grown_of (hcg _ _)))
        have S2 : Aside (SWK encR 2 w0 blk off d (grow (wr.drewN nq) osq)) := S1.out.grown nq osq
        go_wp2
        go_roundg ((i + j) / 2 - i)
        case measure => omega
        case rel =>
          refine ⟨i, (i + j) / 2, rfl, by go_num, hmi, by omega, by omega, Nat.le_refl _, S2, BS.out.1, fun h h1 h2 => ?_⟩
          have e1 := (cfR_neg xa xh).1 hlv
          rw [← XH.out.1, ← XH.out.2] at e1
          have y1 := C5.out h (by omega) (by omega)
          have e2 := HL.out.le (i := (i + j) / 2) (j := h) (by omega) h1 (by omega)
          have e3 := HR.out.le (i := mid + m - 1 - h) (j := mid + m - 1 - (i + j) / 2) (by omega) (by omega) (by omega)
          omega
      · have hlb : (!decide (cfR xa xh < 0)) = true := by simp; omega
        go_wp2_with fail
        go_quiet_grown (first | (go_at_call 135; refine Calls.grown_of (hcg _ _)))
        have S2 : Aside (SWK encR 2 w0 blk off d (grow (wr.drewN nq) osq)) := S1.out.grown nq osq
        go_wp2
        go_roundg (j - ((i + j) / 2 + 1))
        case measure => omega
        case rel =>
          refine ⟨(i + j) / 2 + 1, j, by go_num, rfl, by omega, by omega, hjb, Nat.le_refl _, S2, fun h h1 h2 => ?_, BS.out.2⟩
          have e1 : ¬ xh.1 < xa.1 := fun k => by have := (cfR_neg xa xh).2 k; omega
          rw [← XH.out.1, ← XH.out.2] at e1
          have y1 := C5.out h (by omega) (by omega)
          have e2 := HL.out.le (i := h) (j := (i + j) / 2) (by omega) (by omega) (by omega)
          have e3 := HR.out.le (i := mid + m - 1 - (i + j) / 2) (j := mid + m - 1 - h) (by omega) (by omega) (by omega)
          omega
    · have hltz : ¬ (i : Int) < (j : Int) := by omega
      obtain rfl : i = j := by omega
      obtain ⟨e, he1, he2⟩ : ∃ e : Nat, e + i ≤ mid + m ∧ mid + m ≤ e + i := ⟨mid + m - i, by omega, by omega⟩
      go_upto_region 39 with fail
      generalize hez : ((mid : Int) + (m : Int)) - (i : Int) = ez
      obtain rfl : ez = (e : Int) := by omega
      clear hez
      have CT : Aside (Cut d mid m i s0 r0) := ⟨hmi, hjb, BS.out.1, BS.out.2⟩
      clear BS hij hkx hlt hltz
      have him : i ≤ mid := by omega
      have hme : mid ≤ e := by omega
      have heb : e ≤ b := by omega
      have hie : i ≤ m := by omega
      have hm_e : m ≤ e := by omega
      have hai : a ≤ i := by omega
      go_cut [185] from 178 to 184 (fun s185 wx => wx = wr ∧ s185 = .bool (decide (i < m ∧ m < e)))
      case first =>
        by_cases h1 : i < m
        · have h1z : (i : Int) < (m : Int) := by omega
          by_cases h2 : m < e
          · have h2z : (m : Int) < (e : Int) := by omega
            go_wp2
            go_meet
            case rel => exact ⟨rfl, by simp [h1, h2]⟩
          · have h2z : ¬ (m : Int) < (e : Int) := by omega
            go_wp2
            go_meet
            case rel => exact ⟨rfl, by simp [h2]⟩
        · have h1z : ¬ (i : Int) < (m : Int) := by omega
          go_wp2
          go_meet
          case rel => exact ⟨rfl, by simp [h1]⟩
      case rest =>
      obtain ⟨rfl, rfl⟩ := hcut
      go_upto_if 185 with fail
      go_cut [185] from 186 to 191 (fun _ wx => ∃ d1 : RA, d1.size = d0.size ∧ Aside (SWK encR 2 w0 blk off d1 wx ∧ PermIn a b d d1 ∧ IsRot d d1 i m e))
      case first =>
        by_cases h1 : i < m ∧ m < e
        · have h1b : decide (i < m ∧ m < e) = true := decide_eq_true h1
          go_wp2_with fail
          go_at_call 239
          refine (rotate_any blk off cap i m e d0 d w0 wc R hs S1.out h1.1 h1.2 (by omega) hsz).mono ?_
          rintro e' w' ⟨rfl, d1, x1, x2, x3⟩
          have X : Aside (SWK encR 2 w0 blk off d1 w' ∧ PermIn a b d d1 ∧ IsRot d d1 i m e) := ⟨x1, permIn_mono _ _ i e a b hai heb (by omega) x2, x3⟩
          have xs : d1.size = d0.size := by rw [x2.1]; exact hs
          clear x1 x2 x3
          go_wp2
          go_meet
          case rel => exact ⟨d1, xs, X⟩
        · have h1b : decide (i < m ∧ m < e) = false := decide_eq_false h1
          go_wp2
          go_meet
          case rel => exact ⟨d, hs, S1.out, permIn_refl _ _ _, IsRot.none (by omega)⟩
      case rest =>
      obtain ⟨d1, xs, X⟩ := hcut
      go_upto_region 41 with fail
      go_cut [199] from 192 to 198 (fun s199 wx => wx = wc ∧ s199 = .bool (decide (a < i ∧ i < mid)))
      case first =>
        by_cases h1 : a < i
        · have h1z : (a : Int) < (i : Int) := by omega
          by_cases h2 : i < mid
          · have h2z : (i : Int) < (mid : Int) := by omega
            go_wp2
            go_meet
            case rel => exact ⟨rfl, by simp [h1, h2]⟩
          · have h2z : ¬ (i : Int) < (mid : Int) := by omega
            go_wp2
            go_meet
            case rel => exact ⟨rfl, by simp [h2]⟩
        · have h1z : ¬ (a : Int) < (i : Int) := by omega
          go_wp2
          go_meet
          case rel => exact ⟨rfl, by simp [h1]⟩
      case rest =>
      obtain ⟨rfl, rfl⟩ := hcut
      obtain ⟨hX1, hX2, hX3⟩ := X.out
      obtain ⟨q1, q2, q3, q4, q5, q6, q7⟩ := cut_parts (by omega) (by omega) HL.out HR.out HC.out MD.out CT.out (show e = mid + m - i by omega) hX3
      have XS : Aside (SWK encR 2 w0 blk off d1 wc) := hX1
      have XP : Aside (PermIn a b d d1) := hX2
      have Q1 : Aside (Srt d1 a i ∧ Srt d1 i mid ∧ Crs d1 a i mid) := ⟨q1, q2, q3⟩
      have Q2 : Aside (Srt d1 mid e ∧ Srt d1 e b ∧ Crs d1 mid e b) := ⟨q4, q5, q6⟩
      have Q3 : Aside (∀ i j, a ≤ i → i < mid → mid ≤ j → j < b → lt2 d1[i]! d1[j]!) := q7
      clear hX1 hX2 hX3 q1 q2 q3 q4 q5 q6 q7 X
      go_upto_if 199 with fail
      go_cut [199] from 200 to 205 (fun _ wx => ∃ d2 : RA, d2.size = d0.size ∧ Aside (SWK encR 2 w0 blk off d2 wx ∧ PermIn a mid d1 d2 ∧ Srt d2 a mid))
      case first =>
        by_cases h1 : a < i ∧ i < mid
        · have h1b : decide (a < i ∧ i < mid) = true := decide_eq_true h1
          go_wp2_with fail
          go_at_call 213
          refine (I.out a i mid d1 wc (by omega) xs XS.out h1.1 h1.2 (by omega) Q1.out.1 Q1.out.2.1 Q1.out.2.2).mono ?_
          rintro e' w' ⟨rfl, d2, x1, x2, x3⟩
          have X : Aside (SWK encR 2 w0 blk off d2 w' ∧ PermIn a mid d1 d2 ∧ Srt d2 a mid) := ⟨x1, x2, x3⟩
          have xs2 : d2.size = d0.size := by rw [x2.1]; exact xs
          clear x1 x2 x3
          go_wp2
          go_meet
          case rel => exact ⟨d2, xs2, X⟩
        · have h1b : decide (a < i ∧ i < mid) = false := decide_eq_false h1
          go_wp2
          go_meet
          case rel =>
            refine ⟨d1, xs, XS.out, permIn_refl _ _ _, ?_⟩
            rcases Nat.lt_or_ge a i with k | k
            · rw [show mid = i by omega]; exact Q1.out.1
            · have : a = i := by omega
              rw [this]; exact Q1.out.2.1
      case rest =>
      obtain ⟨d2, xs2, X2⟩ := hcut
      go_upto_region 43 with fail
      go_cut [213] from 206 to 212 (fun s213 wx => wx = wc ∧ s213 = .bool (decide (mid < e ∧ e < b)))
      case first =>
        by_cases h1 : mid < e
        · have h1z : (mid : Int) < (e : Int) := by omega
          by_cases h2 : e < b
          · have h2z : (e : Int) < (b : Int) := by omega
            go_wp2
            go_meet
            case rel => exact ⟨rfl, by simp [h1, h2]⟩
          · have h2z : ¬ (e : Int) < (b : Int) := by omega
            go_wp2
            go_meet
            case rel => exact ⟨rfl, by simp [h2]⟩
        · have h1z : ¬ (mid : Int) < (e : Int) := by omega
          go_wp2
          go_meet
          case rel => exact ⟨rfl, by simp [h1]⟩
      case rest =>
      obtain ⟨rfl, rfl⟩ := hcut
      have KEEP : ∀ t, mid ≤ t → d2[t]! = d1[t]! := fun t ht => X2.out.2.1.2.1 t (.inr ht)
      have Q2' : Aside (Srt d2 mid e ∧ Srt d2 e b ∧ Crs d2 mid e b) := by
        refine ⟨fun x y h1 h2 h3 => ?_, fun x y h1 h2 h3 => ?_, fun x y h1 h2 h3 h4 => ?_⟩
        · rw [KEEP x h1, KEEP y (by omega)]; exact Q2.out.1 x y h1 h2 h3
        · rw [KEEP x (by omega), KEEP y (by omega)]; exact Q2.out.2.1 x y h1 h2 h3
        · rw [KEEP x (by omega), KEEP y (by omega)]; exact Q2.out.2.2 x y h1 h2 h3 h4
      clear KEEP
      by_cases h1 : mid < e ∧ e < b
      · have h1b : decide (mid < e ∧ e < b) = true := decide_eq_true h1
        go_wp2_with fail
        go_at_call 213
        refine (I.out mid e b d2 wc (by omega) xs2 X2.out.1 h1.1 h1.2 hb Q2'.out.1 Q2'.out.2.1 Q2'.out.2.2).mono ?_
        rintro e' w' ⟨rfl, d3, x1, x2, x3⟩
        have X3 : Aside (SWK encR 2 w0 blk off d3 w' ∧ PermIn mid b d2 d3 ∧ Srt d3 mid b) := ⟨x1, x2, x3⟩
        clear x1 x2 x3
        go_wp2
        go_end0
        refine ⟨rfl, d3, X3.out.1, ?_, join_sorted (d1 := d1) (d2 := d2) (by omega) Q3.out X2.out.2.1 X2.out.2.2 X3.out.2.1 X3.out.2.2⟩
        exact permIn_trans _ _ _ _ _ XP.out (permIn_trans _ _ _ _ _ (permIn_mono _ _ a mid a b (Nat.le_refl _) (by omega) (by omega) X2.out.2.1) (permIn_mono _ _ mid b a b (by omega) (Nat.le_refl _) (by omega) X3.out.2.1))
      · have h1b : decide (mid < e ∧ e < b) = false := decide_eq_false h1
        go_wp2
        go_end0
        have s3 : Srt d2 mid b := by
          rcases Nat.lt_or_ge e b with k | k
          · have : mid = e := by omega
            rw [this]; exact Q2'.out.2.1
          · rw [show b = e by omega]; exact Q2'.out.1
        refine ⟨rfl, d2, X2.out.1, ?_, join_sorted (d1 := d1) (d2 := d2) (by omega) Q3.out X2.out.2.1 X2.out.2.2 (permIn_refl _ _ _) s3⟩
        exact permIn_trans _ _ _ _ _ XP.out (permIn_mono _ _ a mid a b (Nat.le_refl _) (by omega) (by omega) X2.out.2.1)
attribute [-go_sem] loadCellsFrom
set_option maxHeartbeats 4000000 in
set_option maxRecDepth 1000000 in
theorem insertion_any (blk off cap a b : Nat) (d0 d : RA) (w0 w : World) (R : RowK encR 2 w0 blk off d0) (hs : d.size = d0.size) (S : SWK encR 2 w0 blk off d w)
    (hab : a ≤ b) (hb : b ≤ d0.size) (hsz : d0.size < 4611686018427387904) :
    Calls Tryz.prog 212 #[.slice (some ⟨blk, off, none⟩) d0.size cap, .int .i64 a, .int .i64 b, .func (.func 135) #[] #[]] w fun e w' =>
      e = .returned (.tuple #[]) ∧ SWK encR 2 w0 blk off (insertionSort ltR d a b) w' := by
  have mixed := Tryz.mixed
  have S0 : Aside (SWK encR 2 w0 blk off d w) := S
  clear S
  go_enter Tryz.func212, Tryz.ntmps212
  go_wp2
  go_loopg [8] (b - a) (fun g1 vi wr => ∃ (i : Nat) (dk : RA), vi = .int .i64 i ∧ a < i ∧ i ≤ b + 1 ∧ b + 1 - i ≤ g1 + 1 ∧ dk.size = d0.size ∧ Aside (SWK encR 2 w0 blk off dk wr) ∧ Hid (insOuter ltR a b i dk = insOuter ltR a b (a + 1) d))
  case atStart => exact ⟨a + 1, d, by go_num, by omega, by omega, by omega, hs, S0, rfl⟩
  case round =>
    clear S0
    obtain ⟨i, dk, rfl, hai, hib, hg1, hsk, S1, HO⟩ := hrel
    by_cases hlt : i < b
    · have hltz : (i : Int) < (b : Int) := by omega
      go_wp2
      go_loopg [9] i (fun g2 vj wr2 => ∃ (j : Nat) (dj : RA), vj = .int .i64 j ∧ a ≤ j ∧ j ≤ i ∧ j ≤ g2 ∧ dj.size = d0.size ∧ Aside (SWK encR 2 w0 blk off dj wr2) ∧ Hid (insInner ltR a j dj = insInner ltR a i dk))
      case atStart => exact ⟨i, dk, rfl, by omega, Nat.le_refl _, Nat.le_refl _, hsk, S1, rfl⟩
      case round =>
        clear S1
        obtain ⟨j, dj, rfl, haj, hji, hg2, hsj, S2, HI⟩ := hrel
        have out : (j ≤ a ∨ ltR dj[j]! dj[j - 1]! = false) → Hid (insOuter ltR a b (i + 1) dj = insOuter ltR a b (a + 1) d) := fun hs => by
          show _ = _
          rw [← HO.out, insOuter_go _ _ _ _ _ hlt, ← HI.out, insInner_stop _ _ _ _ hs]
        have OUT : Aside _ := out
        clear out
        by_cases hja : a < j
        · obtain ⟨jp, rfl⟩ : ∃ jp, j = jp + 1 := ⟨j - 1, by omega⟩
          obtain ⟨xj, hxj⟩ : ∃ x, dj[jp + 1]! = x := ⟨_, rfl⟩
          obtain ⟨xp, hxp⟩ : ∃ x, dj[jp]! = x := ⟨_, rfl⟩
          have lj := S2.out.ld R hsj Tryz.prog (jp + 1) (by omega)
          have lp := S2.out.ld R hsj Tryz.prog jp (by omega)
          have hcg : ∀ n' os', Calls Tryz.prog 135 #[.agg (encR xj).toArray, .agg (encR xp).toArray] (grow (wr.drewN n') os') fun e w' => e = .returned (.int .i64 (cfR xj xp)) ∧ ∃ q os'', w' = grow ((grow (wr.drewN n') os').drewN q) os'' :=
            fun n os => S2.out.cmp (cmp_lays blk off d0.size w0) hsj xj xp n os
          rw [hxj] at lj
          rw [hxp] at lp
          have XH : Hid (dj[jp + 1]! = xj ∧ dj[jp]! = xp) := ⟨hxj, hxp⟩
          clear hxj hxp
          have f1 : (a : Int) < (jp : Int) + 1 := by omega
          have f2 : (0 : Int) ≤ (jp : Int) + 1 := by omega
          have f3 : (jp : Int) + 1 < (d0.size : Int) := by omega
          have f4 : ((jp : Int) + 1).toNat = jp + 1 := by omega
          have f5 : (0 : Int) ≤ (jp : Int) := by omega
          have f6 : (jp : Int) < (d0.size : Int) := by omega
          have f7 : IntKind.i64.wrap (jp : Int) = (jp : Int) := by rw [IntKind.wrap_i64]; omega
          have f8 : (jp : Int) + 1 - 1 = (jp : Int) := by omega
          by_cases hlv : cfR xj xp < 0
          · go_wp2_with fail
            go_quiet_grown (first | (go_at_call 135; refine Calls.grown_of (hcg _ _)))
            have S3 : Aside (SWK encR 2 w0 blk off dj (grow (wr.drewN nq) osq)) := S2.out.grown nq osq
            clear S2 lj lp hcg
            generalize grow (wr.drewN nq) osq = w3 at S3 ⊢
            go_wp2_with fail
            have S4 : Aside (SWK encR 2 w0 blk off (swp dj (jp + 1) jp) ((w3.drew.setCells blk (off + (jp + 1) * 2) (encR dj[jp]!)).setCells blk (off + jp * 2) (encR dj[jp + 1]!))) := S3.out.swapped R (jp + 1) jp (by omega) (by omega)
            have l1 := S3.out.ld1 R hsj Tryz.prog (jp + 1) (by omega)
            have l2 := S3.out.ld1 R hsj Tryz.prog jp (by omega)
            have s1 := S3.out.st1 R hsj Tryz.prog (jp + 1) (by omega) dj[jp]!
            have s2 := S3.out.st2 R hsj Tryz.prog (jp + 1) jp (by omega) (by omega) dj[jp]! dj[jp + 1]!
            have n1 : (encR dj[jp + 1]!).length = 2 := R.hk _
            have n2 : (encR dj[jp]!).length = 2 := R.hk _
            generalize encR dj[jp + 1]! = cI at S4 l1 s2 n1
            generalize encR dj[jp]! = cJ at S4 l2 s1 s2 n2
            clear S3
            go_wp2_with fail
            go_big_region_o
            clear l1 l2 s1 s2
            generalize (w3.drew.setCells blk (off + (jp + 1) * 2) cJ).setCells blk (off + jp * 2) cI = w2 at S4 ⊢
            go_wp2
            go_roundg jp
            case measure => omega
            case rel =>
              refine ⟨jp, swp dj (jp + 1) jp, by first | rfl | go_num | (congr 1; omega), by omega, by omega, Nat.le_refl _, by rw [size_swp]; exact hsj, S4, (show Hid _ from ?_)⟩
              show _ = _
              have e1 := insInner_go ltR a (jp + 1) dj hja (by simp only [Nat.add_sub_cancel]; rw [XH.out.1, XH.out.2]; exact decide_eq_true hlv)
              simp only [Nat.add_sub_cancel] at e1
              rw [← HI.out, e1]
          · go_wp2_with fail
            go_quiet_grown (first | (go_at_call 135; refine Calls.grown_of (hcg _ _)))
            have S3 : Aside (SWK encR 2 w0 blk off dj (grow (wr.drewN nq) osq)) := S2.out.grown nq osq
            go_wp2
            go_roundg (b - (i + 1))
            case measure => omega
            case rel => exact ⟨i + 1, dj, by go_num, by omega, by omega, by omega, hsj, S3, OUT.out (Or.inr (by simp only [Nat.add_sub_cancel]; rw [XH.out.1, XH.out.2]; exact decide_eq_false (by omega)))⟩
        · have hjaz : decide ((j : Int) > (a : Int)) = false := decide_eq_false (by omega)
          have hjaz' : ¬ (a : Int) < (j : Int) := by omega
          have S3 : Aside (SWK encR 2 w0 blk off dj wr.drew) := S2.out.drew
          clear S2
          go_wp2_with fail
          go_big_region_o
          all_goals go_wp2
          go_roundg (b - (i + 1))
          case measure => omega
          case rel => exact ⟨i + 1, dj, by go_num, by omega, by omega, by omega, hsj, S3, OUT.out (Or.inl (by omega))⟩
    · have hltz : ¬ (i : Int) < (b : Int) := by omega
      go_wp2
      go_end0
      refine ⟨rfl, ?_⟩
      have : insertionSort ltR d a b = dk := by unfold insertionSort; rw [← HO.out, insOuter_stop _ _ _ _ _ hlt]
      rw [this]; exact S1.out
theorem symMerge_any (blk off cap : Nat) (d0 : RA) (w0 : World) (R : RowK encR 2 w0 blk off d0) (hsz : d0.size < 4611686018427387904) :
    ∀ (N a m b : Nat) (d : RA) (w : World), b - a ≤ N → d.size = d0.size → SWK encR 2 w0 blk off d w → a < m → m < b → b ≤ d0.size → Srt d a m → Srt d m b → Crs d a m b →
      Calls Tryz.prog 213 #[.slice (some ⟨blk, off, none⟩) d0.size cap, .int .i64 a, .int .i64 m, .int .i64 b, .func (.func 135) #[] #[]] w fun e w' =>
        e = .returned (.tuple #[]) ∧ ∃ d', SWK encR 2 w0 blk off d' w' ∧ PermIn a b d d' ∧ Srt d' a b
  | 0, a, m, b, d, w, hN, _, _, ham, hmb, _, _, _, _ => by omega
  | N + 1, a, m, b, d, w, hN, hs, S, ham, hmb, hb, hL, hR, hC => by
    rcases Nat.lt_or_ge (a + 1) m with h1 | h1
    · rcases Nat.lt_or_ge (m + 1) b with h2 | h2
      · exact symMany_any blk off cap a m b d0 d w0 w R hs S (fun a' m' b' d' w' hlt x1 x2 x3 x4 x5 x6 x7 x8 => symMerge_any blk off cap d0 w0 R hsz N a' m' b' d' w' (by omega) x1 x2 x3 x4 x5 x6 x7 x8) h1 h2 hb hsz hL hR hC
      · obtain rfl : b = m + 1 := by omega
        exact symLast_any blk off cap a m (m + 1) d0 d w0 w R hs S h1 (by omega) (by omega) hb hsz hL hC
    · obtain rfl : m = a + 1 := by omega
      exact symOne_any blk off cap a b d0 d w0 w R hs S hmb hb hsz hR hC _ rfl
attribute [-go_sem] loadCellsFrom
set_option maxHeartbeats 4000000 in
set_option maxRecDepth 1000000 in
theorem stable_any (blk off cap : Nat) (d0 : RA) (w0 : World) (R : RowK encR 2 w0 blk off d0) (hsz : d0.size < 1000000)
    (w : World) (S : SWK encR 2 w0 blk off d0 w) (hA : Asc d0 0 d0.size) :
    Calls Tryz.prog 180 #[.slice (some ⟨blk, off, none⟩) d0.size cap, .int .i64 d0.size, .func (.func 135) #[] #[]] w fun e w' =>
      e = .returned (.tuple #[]) ∧ ∃ d', SWK encR 2 w0 blk off d' w' ∧ PermIn 0 d0.size d0 d' ∧ Srt d' 0 d0.size := by
  have mixed := Tryz.mixed
  have HA : Aside (Asc d0 0 d0.size) := hA
  have S0 : Aside (SWK encR 2 w0 blk off d0 w) := S
  clear S hA
  obtain ⟨n, hn⟩ : ∃ n, n = d0.size := ⟨_, rfl⟩
  have HN : Hid (n = d0.size) := hn
  rw [← hn] at hsz ⊢
  clear hn
  go_enter Tryz.func180, Tryz.ntmps180
  go_wp2
  go_loopg [7, 8] n (fun kx s7 s8 wr => ∃ (a b q : Nat) (dk : RA), s7 = .int .i64 a ∧ s8 = .int .i64 b ∧ b ≤ a + 20 ∧ a + 20 ≤ b ∧ a ≤ n ∧ n - a ≤ kx ∧ Aside (a = q * 20) ∧ Aside (SWK encR 2 w0 blk off dk wr) ∧ Aside (PermIn 0 n d0 dk) ∧ Aside (Bl dk 20 a n) ∧ Aside (Asc dk a n))
  case atStart => exact ⟨0, 20, 0, d0, rfl, rfl, by omega, by omega, by omega, by omega, rfl, S0, permIn_refl _ _ _, (by rw [HN.out]; exact HA.out.bl), (by rw [HN.out]; exact HA.out)⟩
  case round =>
    clear S0
    obtain ⟨a, b, q, dk, rfl, rfl, hb1, hb2, han, hkx, HQ, S1, P1, B1, A1⟩ := hrel
    have hsk : Hid (dk.size = d0.size) := P1.out.1
    by_cases hlt : b ≤ n
    · have hltz : (b : Int) ≤ (n : Int) := by omega
      have hbn : Aside (b ≤ d0.size) := by rw [← HN.out]; exact hlt
      go_wp2_with fail
      have key := insertion_any blk off cap a b d0 dk w0 wr R hsk.out S1.out (by omega) hbn.out (by rw [← HN.out]; omega)
      rw [← HN.out] at key
      refine key.mono ?_
      rintro e w1 ⟨rfl, S2⟩
      have S3 : Aside (SWK encR 2 w0 blk off (Go.Sort.insertionSort ltR dk a b) w1) := S2
      obtain ⟨p, s⟩ := insertion_sorted (d := dk) (a := a) (b := b) (by omega) (by rw [hsk.out]; exact hbn.out) (fun i j h1 h2 h3 => A1.out i j h1 h2 (by omega))
      have P2 : Aside (PermIn a b dk (Go.Sort.insertionSort ltR dk a b)) := p
      have SR : Aside (Srt (Go.Sort.insertionSort ltR dk a b) a b) := s
      clear p s key S2 S1
      go_wp2
      go_roundg (n - b)
      case measure => omega
      case rel =>
        refine ⟨b, b + 20, q + 1, _, by first | rfl | go_num, by first | rfl | go_num, by omega, by omega, by omega, by omega, ?_, S3, ?_, ?_, ?_⟩
        · show b = (q + 1) * 20
          have := HQ.out; omega
        · exact permIn_trans _ _ _ _ _ P1.out (permIn_mono _ _ a b 0 n (by omega) (by omega) (by rw [hsk.out, ← HN.out]; exact Nat.le_refl _) P2.out)
        · have h1 := B1.out
          rw [HQ.out] at h1
          have p2 := P2.out
          have s2 := SR.out
          have hbq : b = q * 20 + 20 := by have := HQ.out; omega
          have haq := HQ.out
          subst haq
          have := h1.step (b := b) (d' := Go.Sort.insertionSort ltR dk (q * 20) b) (by rw [hsk.out, ← HN.out]; exact Nat.le_refl _) (by omega) p2 s2
          rw [show b = (q + 1) * 20 by omega]
          rw [show b = (q + 1) * 20 by omega] at this
          exact this
        · exact A1.out.keep P2.out (by omega) (by omega)
    · have hltz : ¬ (b : Int) ≤ (n : Int) := by omega
      go_wp2_with fail
      have key := insertion_any blk off cap a n d0 dk w0 wr R hsk.out S1.out (by omega) (by rw [← HN.out]; omega) (by rw [← HN.out]; omega)
      rw [← HN.out] at key
      refine key.mono ?_
      rintro e w1 ⟨rfl, S2⟩
      obtain ⟨p, s⟩ := insertion_sorted (d := dk) (a := a) (b := n) (by omega) (by rw [hsk.out, HN.out]; exact Nat.le_refl _) (fun i j h1 h2 h3 => A1.out i j h1 h2 (by omega))
      obtain ⟨d1, hd1⟩ : ∃ d1, d1 = Go.Sort.insertionSort ltR dk a n := ⟨_, rfl⟩
      rw [← hd1] at S2 p s
      clear hd1
      have S3 : Aside (SWK encR 2 w0 blk off d1 w1) := S2
      have P2 : Aside (PermIn 0 n d0 d1) := permIn_trans _ _ _ _ _ P1.out (permIn_mono _ _ a n 0 n (by omega) (by omega) (by rw [hsk.out, ← HN.out]; exact Nat.le_refl _) p)
      have K2 : Aside (Blk d1 20 n) := by
        have h1 := B1.out
        have haq := HQ.out
        subst haq
        have := h1.step (b := n) (d' := d1) (by rw [hsk.out, ← HN.out]; exact Nat.le_refl _) (by omega) p s
        exact this.blk (by omega)
      clear p s S2 key S1 P1 B1 A1 HQ hsk
      go_wp2
      go_loopg [6] n (fun kx s6 wr => ∃ (s : Nat) (dk : RA), s6 = .int .i64 s ∧ 20 ≤ s ∧ s ≤ 2 * n + 20 ∧ n - s ≤ kx ∧ Aside (SWK encR 2 w0 blk off dk wr) ∧ Aside (PermIn 0 n d0 dk) ∧ Aside (Blk dk s n))
      case atStart => exact ⟨20, d1, rfl, by omega, by omega, by omega, S3, P2, K2⟩
      case round =>
        clear S3 P2 K2
        obtain ⟨s, ds, rfl, hs1, hs2, hkx2, S4, P4, K4⟩ := hrel
        by_cases hsn : s < n
        · have hsnz : (s : Int) < (n : Int) := by omega
          go_wp2
          go_loopg [7, 8] n (fun kx s7 s8 wr => ∃ (a b q : Nat) (dk : RA), s7 = .int .i64 a ∧ s8 = .int .i64 b ∧ b ≤ a + 2 * s ∧ a + 2 * s ≤ b ∧ a ≤ n ∧ n - a ≤ kx ∧ Aside (a = q * (2 * s)) ∧ Aside (SWK encR 2 w0 blk off dk wr) ∧ Aside (PermIn 0 n d0 dk) ∧ Aside (Bl dk (2 * s) a n) ∧ Aside (Raw dk s a n))
          case atStart => exact ⟨0, 2 * s, 0, ds, rfl, by go_num, by omega, by omega, by omega, by omega, (show 0 = 0 * (2 * s) from by omega), S4, P4, K4.out.bl, K4.out.raw⟩
          case round =>
            clear S4 P4 K4
            obtain ⟨a, b, q, dk, rfl, rfl, hb1, hb2, han, hkx3, HQ, S5, P5, B5, R5⟩ := hrel
            have hsk : Hid (dk.size = d0.size) := P5.out.1
            have PT := R5.out
            rw [HQ.out] at PT
            have PT2 : Aside _ := PT.parts
            clear PT
            by_cases hbn : b ≤ n
            · have hbnz : (b : Int) ≤ (n : Int) := by omega
              go_wp2_with fail
              have key := symMerge_any blk off cap d0 w0 R (by rw [← HN.out]; omega) (b - a) a (a + s) b dk wr (Nat.le_refl _) hsk.out S5.out (by omega) (by omega) (by rw [← HN.out]; omega)
                (by have := PT2.out.1 (a + s) (by have := HQ.out; omega) (by omega); rw [← HQ.out] at this; exact this)
                (by have := PT2.out.2.1 b (by have := HQ.out; omega) (by omega); rw [← HQ.out] at this; exact this)
                (by have := PT2.out.2.2 b (by omega); rw [← HQ.out] at this; exact this)
              rw [← HN.out] at key
              rw [show ((a : Int) + (s : Int)) = ((a + s : Nat) : Int) from by omega]
              refine key.mono ?_
              rintro e w2 ⟨rfl, d2, S6, p, sr⟩
              have S7 : Aside (SWK encR 2 w0 blk off d2 w2) := S6
              have P6 : Aside (PermIn 0 n d0 d2) := permIn_trans _ _ _ _ _ P5.out (permIn_mono _ _ a b 0 n (by omega) (by omega) (by rw [hsk.out, ← HN.out]; exact Nat.le_refl _) p)
              have R6 : Aside (Raw d2 s b n) := R5.out.keep p (by omega) (Nat.le_refl _)
              have B6 : Aside (Bl d2 (2 * s) b n) := by
                have h1 := B5.out
                have haq := HQ.out
                have e2 : (q + 1) * (2 * s) = q * (2 * s) + 2 * s := by rw [Nat.add_mul, Nat.one_mul]
                subst haq
                have := h1.step (b := b) (d' := d2) (by rw [hsk.out, ← HN.out]; exact Nat.le_refl _) (by omega) p sr
                rw [show (q + 1) * (2 * s) = b by omega] at this
                exact this
              have HQ2 : Aside (b = (q + 1) * (2 * s)) := by
                show b = _
                have := HQ.out
                rw [Nat.add_mul, Nat.one_mul, ← this]; omega
              clear p sr S6 key S5 P5 B5 R5 PT2 HQ
              go_wp2
              go_roundg (n - b)
              case measure => omega
              case rel => exact ⟨b, b + 2 * s, q + 1, d2, by first | rfl | go_num, by first | rfl | go_num, by omega, by omega, by omega, by omega, HQ2, S7, P6, B6, R6⟩
            · have hbnz : ¬ (b : Int) ≤ (n : Int) := by omega
              by_cases hmn : a + s < n
              · have hmnz : (a : Int) + (s : Int) < (n : Int) := by omega
                go_wp2_with fail
                have key := symMerge_any blk off cap d0 w0 R (by rw [← HN.out]; omega) (n - a) a (a + s) n dk wr (Nat.le_refl _) hsk.out S5.out (by omega) (by omega) (by rw [← HN.out]; omega)
                  (by have := PT2.out.1 (a + s) (by have := HQ.out; omega) (by omega); rw [← HQ.out] at this; exact this)
                  (by have := PT2.out.2.1 n (by have := HQ.out; omega) (by omega); rw [← HQ.out] at this; exact this)
                  (by have := PT2.out.2.2 n (by omega); rw [← HQ.out] at this; exact this)
                rw [← HN.out] at key
                rw [show ((a : Int) + (s : Int)) = ((a + s : Nat) : Int) from by omega]
                refine key.mono ?_
                rintro e w2 ⟨rfl, d2, S6, p, sr⟩
                have S7 : Aside (SWK encR 2 w0 blk off d2 w2) := S6
                have P6 : Aside (PermIn 0 n d0 d2) := permIn_trans _ _ _ _ _ P5.out (permIn_mono _ _ a n 0 n (by omega) (by omega) (by rw [hsk.out, ← HN.out]; exact Nat.le_refl _) p)
                have K6 : Aside (Blk d2 (s * 2) n) := by
                  have h1 := B5.out
                  have haq := HQ.out
                  have e2 : (q + 1) * (2 * s) = q * (2 * s) + 2 * s := by rw [Nat.add_mul, Nat.one_mul]
                  subst haq
                  have := h1.step (b := n) (d' := d2) (by rw [hsk.out, ← HN.out]; exact Nat.le_refl _) (by omega) p sr
                  rw [Nat.mul_comm s 2]
                  exact this.blk (by omega)
                clear p sr S6 key S5 P5 B5 R5 PT2 HQ
                go_wp2
                go_roundg (n - s * 2)
                case measure => omega
                case rel => exact ⟨s * 2, d2, by first | rfl | go_num, by omega, by omega, by omega, S7, P6, K6⟩
              · have hmnz : ¬ (a : Int) + (s : Int) < (n : Int) := by omega
                have K6 : Aside (Blk dk (s * 2) n) := by
                  have h1 := B5.out
                  have haq := HQ.out
                  have e2 : (q + 1) * (2 * s) = q * (2 * s) + 2 * s := by rw [Nat.add_mul, Nat.one_mul]
                  have s1 := PT2.out.1 n (by omega) (by omega)
                  subst haq
                  have := h1.step (b := n) (d' := dk) (by rw [hsk.out, ← HN.out]; exact Nat.le_refl _) (by omega) (permIn_refl _ _ _) s1
                  rw [Nat.mul_comm s 2]
                  exact this.blk (by omega)
                clear B5 R5 PT2 HQ
                go_wp2
                go_roundg (n - s * 2)
                case measure => omega
                case rel => exact ⟨s * 2, dk, by first | rfl | go_num, by omega, by omega, by omega, S5, P5, K6⟩
        · have hsnz : ¬ (s : Int) < (n : Int) := by omega
          go_wp2
          go_end0
          exact ⟨rfl, ds, S4.out, P4.out, K4.out.all (by omega)⟩
def PosRow (ws : List Int) : Prop := ∀ x ∈ ws, 0 ≤ x ∧ x ≤ 4294967295
def shareE (t : Int) (ws : List Int) : Int := if 64 < ws.length then 2 else if ws.sum = 0 then 60 else if 0 ≤ t ∧ t ≤ 1125899906842624 then 0 else 7
def shareV (t : Int) (ws : List Int) : List Int := if shareE t ws = 0 then shareL t ws else []
def ShareOut (t : Int) (ws : List Int) (w : World) (e : Ending) (w' : World) : Prop :=
  ∃ v, e = .returned (.tuple #[v, .int .i64 (shareE t ws)]) ∧ w'.ownsRow w.heap.size 2 1 v (shareV t ws).length ((shareV t ws).map (.int .i64)) ∧ Below w.heap.size w w' ∧ (shareE t ws ≠ 0 → v = .slice none 0 0)
theorem share_bad {t : Int} {ws : List Int} {w w' : World} {c : Int} (h : shareE t ws = c) (hc : c ≠ 0) (hb : Below w.heap.size w w') : ShareOut t ws w (.returned (.tuple #[.slice none 0 0, .int .i64 c])) w' := by
  refine ⟨_, by rw [h], ?_, hb, fun _ => rfl⟩
  have : shareV t ws = [] := by unfold shareV; rw [if_neg (by rw [h]; exact hc)]
  rw [this]; exact World.ownsRow_nil _ _ _ _
theorem sum_take_succ {l : List Int} {k : Nat} (h : k < l.length) : (l.take (k + 1)).sum = (l.take k).sum + l.getD k 0 := by
  rw [List.take_succ_eq_append_getElem h, List.sum_append_int]; simp [List.getD_eq_getElem?_getD, h]
theorem posrow_get {ws : List Int} (h : PosRow ws) {k : Nat} (hk : k < ws.length) : 0 ≤ ws.getD k 0 ∧ ws.getD k 0 ≤ 4294967295 := by
  have : ws.getD k 0 = ws[k] := by simp [List.getD_eq_getElem?_getD, hk]
  rw [this]; exact h _ (List.getElem_mem hk)
theorem take_sum_bd {ws : List Int} (h : PosRow ws) (k : Nat) : 0 ≤ (ws.take k).sum ∧ (ws.take k).sum ≤ (ws.take k).length * 4294967295 := by
  have h' : ∀ x ∈ ws.take k, 0 ≤ x ∧ x ≤ 4294967295 := fun x hx => h x (List.mem_of_mem_take hx)
  refine ⟨sum_nonneg _ (fun x hx => (h' x hx).1), ?_⟩
  have := sum_le (fun x : Int => x) (fun _ => 4294967295) (ws.take k) (fun x hx => (h' x hx).2)
  rw [sum_const, List.map_id'] at this; exact this
set_option maxHeartbeats 400000 in
theorem share_long (t : Int) (ws : List Int) (a : Option Addr) (cap : Nat) (w : World) (hl : ws.length ≤ 9223372036854775807) (h : 64 < ws.length) :
    Calls Tryz.prog 81 #[.int .i64 t, .slice a ws.length cap] w (ShareOut t ws w) := by
  have F := hid (show shareE t ws = 2 by unfold shareE; rw [if_pos h])
  have h' : (64 : Int) < (ws.length : Int) := by omega
  go_enter Tryz.func81, Tryz.ntmps81
  go_wp2
  go_ret2
  exact share_bad F.out (by decide) (Below.refl _ _)
set_option maxHeartbeats 1000000 in
theorem share_none (t : Int) (ws : List Int) (a : Option Addr) (cap : Nat) (w : World) (hr : Row w a (ws.map (.int .u32))) (hp : PosRow ws) (h : ws.length ≤ 64) (hbad : shareE t ws ≠ 0) :
    Calls Tryz.prog 81 #[.int .i64 t, .slice a ws.length cap] w (ShareOut t ws w) := by
  have Hr := hid hr
  have HP : Aside (PosRow ws) := hp
  have HB := hid hbad
  clear hr hp hbad
  have h' : ¬ (64 : Int) < (ws.length : Int) := by omega
  go_enter Tryz.func81, Tryz.ntmps81
  go_wp2
  go_loop [6, 24] (fun s i => ∃ (k : Nat) (x : Int), k ≤ ws.length ∧ i = .int .i64 k ∧ s = .int .i64 x ∧ Hid (x = (ws.take k).sum) ∧ 0 ≤ x ∧ x ≤ k * 4294967295) (fun _ i => ws.length - (RowKit.intOf i).toNat)
  case atStart => exact ⟨0, 0, Nat.zero_le _, rfl, rfl, hid (by simp), by omega, by omega⟩
  case round =>
    obtain ⟨k, s, hk, rfl, rfl, hs, hs0, hs1⟩ := hrel
    by_cases hlt : k < ws.length
    · obtain ⟨b, off, rfl, hc⟩ := Hr.out.int k hlt
      have hx := posrow_get HP.out hlt
      generalize hxe : ws.getD k 0 = x at *
      have HX := hid hxe
      clear hxe
      go_wp2
      go_round
      case rel => exact ⟨k + 1, s + x, by omega, by go_num, rfl, hid (by rw [sum_take_succ hlt, ← hs.out, HX.out]), by omega, by omega⟩
      case measure => simp [RowKit.intOf]; omega
    · obtain rfl : k = ws.length := by omega
      have hsum : s = ws.sum := by rw [hs.out, List.take_length]
      have HS := hid hsum
      clear hs hsum hk hlt
      by_cases hz : s = 0
      · subst hz
        have F := hid (show shareE t ws = 60 by unfold shareE; rw [if_neg (by omega), if_pos HS.out.symm])
        go_wp2
        go_ret2
        exact share_bad F.out (by decide) (Below.refl _ _)
      · have hz' : (s == 0) = false := by simpa using hz
        have hne : ws.sum ≠ 0 := by rw [← HS.out]; exact hz
        have F := hid (show shareE t ws = 7 by
          have hb := HB.out
          unfold shareE at hb ⊢
          rw [if_neg (by omega), if_neg hne] at hb ⊢
          split at hb
          · simp at hb
          · rename_i hn; rw [if_neg hn])
        have hm : t < 0 ∨ 0 ≤ t ∧ mayI t = false := by
          rcases Int.lt_or_le t 0 with k | k
          · exact .inl k
          · refine .inr ⟨k, ?_⟩
            cases hm : mayI t with
            | false => rfl
            | true =>
              have hb := HB.out
              unfold shareE at hb
              rw [if_neg (by omega), if_neg hne, if_pos ⟨k, (mayI_of hm).2⟩] at hb
              exact absurd rfl hb
        clear hz hne
        rcases hm with hm | ⟨hm, hm2⟩
        · have hd : decide (t < 0) = true := decide_eq_true hm
          go_wp2
          go_ret2
          exact share_bad F.out (by decide) (Below.refl _ _)
        · have hd : decide (t < 0) = false := decide_eq_false (by omega)
          have he : (errI t != 0) = true := by simp [errI, hm2]
          go_wp2_with fail
          refine (check_any _ _).mono ?_
          rintro e w1 ⟨rfl, hb1⟩
          go_wp2
          go_ret2
          exact share_bad F.out (by decide) hb1
end Go.Proofs.YtmhbpifhpolghaaGreat
end
