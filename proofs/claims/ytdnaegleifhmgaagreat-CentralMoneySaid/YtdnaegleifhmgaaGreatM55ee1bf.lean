/- SW5, SW6, SW7. -/
import Derived.Test.YtdnaegleifhmgaaGreatM4e79fd2
import Derived.Deep.DeepCutAuto
import Derived.Test.YtdnaegleifhmgaaGreatM009d203
import Derived.Sort.WalkA
set_option maxRecDepth 100000
set_option linter.unusedVariables false
set_option linter.unusedSimpArgs false
set_option linter.unusedSectionVars false
section
namespace Go.Proofs.YtdnaegleifhmgaaGreat
open Go.RowKit Go.Lib Go.Tk Go.Sort Go.Shelf
attribute [-go_sem] loadCellsFrom
set_option maxHeartbeats 4000000 in
set_option maxRecDepth 1000000 in
theorem symMany_any (blk off cap a m b : Nat) (d0 d : RA) (w0 w : World) (R : RowK encR 2 w0 blk off d0) (hs : d.size = d0.size) (S : SWK encR 2 w0 blk off d w)
    (IH : ∀ (a' m' b' : Nat) (d' : RA) (w' : World), b' - a' < b - a → d'.size = d0.size → SWK encR 2 w0 blk off d' w' → a' < m' → m' < b' → b' ≤ d0.size → Srt d' a' m' → Srt d' m' b' → Crs d' a' m' b' →
      Calls Tryz.prog 167 #[.slice (some ⟨blk, off, none⟩) d0.size cap, .int .i64 a', .int .i64 m', .int .i64 b', .func (.func 157) #[] #[]] w' fun e w'' =>
        e = .returned (.tuple #[]) ∧ ∃ d'', SWK encR 2 w0 blk off d'' w'' ∧ PermIn a' b' d' d'' ∧ Srt d'' a' b')
    (ham : a + 1 < m) (hmb : m + 1 < b) (hb : b ≤ d0.size) (hsz : d0.size < 4611686018427387904) (hL : Srt d a m) (hR : Srt d m b) (hC : Crs d a m b) :
    Calls Tryz.prog 167 #[.slice (some ⟨blk, off, none⟩) d0.size cap, .int .i64 a, .int .i64 m, .int .i64 b, .func (.func 157) #[] #[]] w fun e w' =>
      e = .returned (.tuple #[]) ∧ ∃ d', SWK encR 2 w0 blk off d' w' ∧ PermIn a b d d' ∧ Srt d' a b := by
  have mixed := Tryz.mixed
  have S0 : Aside (SWK encR 2 w0 blk off d w) := S
  have HL : Aside (Srt d a m) := hL
  have HR : Aside (Srt d m b) := hR
  have HC : Aside (Crs d a m b) := hC
  have I := hid IH
  have t1 : ((m : Int) - (a : Int) == 1) = false := by simp; omega
  have t2 : ((b : Int) - (m : Int) == 1) = false := by simp; omega
  clear S hL hR hC IH
  go_enter Tryz.func167, Tryz.ntmps167
  go_upto_if 140 with fail
  have hm1 : 2 * (((a : Int) + (b : Int)) / 2) ≤ a + b := by omega
  have hm2 : (a : Int) + b ≤ 2 * (((a : Int) + (b : Int)) / 2) + 1 := by omega
  generalize ((a : Int) + (b : Int)) / 2 = mz at hm1 hm2 ⊢
  obtain ⟨mid, rfl⟩ : ∃ mid : Nat, mz = (mid : Int) := ⟨mz.toNat, by omega⟩
  go_cut [20, 21] from 138 to 146 (fun s20 s21 wx => wx = w ∧ ∃ s0 r0 : Nat, s20 = .int .i64 (s0 : Int) ∧ s21 = .int .i64 (r0 : Int) ∧ Aside (Mid a m b mid s0 r0))
  case first =>
    by_cases hm : mid < m
    · have hmz : (mid : Int) < (m : Int) := by omega
      go_wp2
      go_meet
      case rel => exact ⟨rfl, mid + m - b, mid, by go_num, rfl, ⟨by omega, by omega, .inl ⟨hm, rfl, rfl⟩⟩⟩
    · have hmz : ¬ (mid : Int) < (m : Int) := by omega
      go_wp2
      go_meet
      case rel => exact ⟨rfl, a, m, rfl, rfl, ⟨by omega, by omega, .inr ⟨by omega, rfl, rfl⟩⟩⟩
  case rest =>
  obtain ⟨rfl, s0, r0, rfl, rfl, MD⟩ := hcut
  obtain ⟨c1, c2, c3, c4, c5, c6, c7, c8⟩ := cut_at (by omega) (by omega) MD.out
  have C5 := hid c5
  have C7 := hid c7
  have C8 := hid c8
  clear c5 c7 c8
  go_wp2
  go_loopg [20, 21] (r0 - s0) (fun kx s20 s21 wr => ∃ i j : Nat, s20 = .int .i64 (i : Int) ∧ s21 = .int .i64 (j : Int) ∧ s0 ≤ i ∧ i ≤ j ∧ j ≤ r0 ∧ j - i ≤ kx ∧ Aside (SWK encR 2 w0 blk off d wr) ∧
    Aside ((∀ c, s0 ≤ c → c < i → ¬ d[c]!.1 < d[mid + m - 1 - c]!.1) ∧ (∀ c, j ≤ c → c < r0 → d[c]!.1 < d[mid + m - 1 - c]!.1)))
  case atStart => exact ⟨s0, r0, rfl, rfl, by omega, by omega, by omega, by omega, S0, fun h _ _ => by omega, fun h _ _ => by omega⟩
  case round =>
    clear S0
    obtain ⟨i, j, rfl, rfl, hmi, hij, hjb, hkx, S1, BS⟩ := hrel
    by_cases hlt : i < j
    · have hltz : (i : Int) < (j : Int) := by omega
      obtain ⟨x1, x2⟩ := C5.out ((i + j) / 2) (by omega) (by omega)
      obtain ⟨xh, hxh⟩ : ∃ x, d[(i + j) / 2]! = x := ⟨_, rfl⟩
      obtain ⟨xa, hxa⟩ : ∃ x, d[mid + m - 1 - (i + j) / 2]! = x := ⟨_, rfl⟩
      have lj := S1.out.ld R hs Tryz.prog ((i + j) / 2) (by omega)
      have la := S1.out.ld R hs Tryz.prog (mid + m - 1 - (i + j) / 2) (by omega)
      have hcg : ∀ n' os', Calls Tryz.prog 157 #[.agg (encR xa).toArray, .agg (encR xh).toArray] (grow (wr.drewN n') os') fun e w' => e = .returned (.int .i64 (cfR xa xh)) ∧ ∃ q os'', w' = grow ((grow (wr.drewN n') os').drewN q) os'' :=
        fun n os => S1.out.cmp (cmp_lays blk off d0.size w0) hs xa xh n os
      rw [hxh] at lj
      rw [hxa] at la
      have ph : (0 : Int) ≤ ((i : Int) + (j : Int)) / 2 := by omega
      have bh : ((i : Int) + (j : Int)) / 2 < (d0.size : Int) := by omega
      have eh : (((i : Int) + (j : Int)) / 2).toNat = (i + j) / 2 := by omega
      have pa : (0 : Int) ≤ (mid : Int) + (m : Int) - 1 - ((i : Int) + (j : Int)) / 2 := by omega
      have wa : IntKind.i64.wrap ((mid : Int) + (m : Int) - 1 - ((i : Int) + (j : Int)) / 2) = (mid : Int) + (m : Int) - 1 - ((i : Int) + (j : Int)) / 2 := by rw [IntKind.wrap_i64]; omega
      have pa' : ((i : Int) + (j : Int)) / 2 ≤ (mid : Int) + (m : Int) - 1 := by omega
      have ba : (mid : Int) + (m : Int) - 1 - ((i : Int) + (j : Int)) / 2 < (d0.size : Int) := by omega
      have ea : ((mid : Int) + (m : Int) - 1 - ((i : Int) + (j : Int)) / 2).toNat = mid + m - 1 - (i + j) / 2 := by omega
      have XH : Hid (d[(i + j) / 2]! = xh ∧ d[mid + m - 1 - (i + j) / 2]! = xa) := ⟨hxh, hxa⟩
      clear hxh hxa
      by_cases hlv : cfR xa xh < 0
      · go_wp2_with fail
        go_quiet_grown (first | (go_at_call 157; refine Calls.grown_of (hcg _ _)))
        have S2 : Aside (SWK encR 2 w0 blk off d (grow (wr.drewN nq) osq)) := S1.out.grown nq osq
        go_wp2
        go_roundg ((i + j) / 2 - i)
        case measure => omega
        case rel =>
          refine ⟨i, (i + j) / 2, rfl, by go_num, hmi, by omega, by omega, Nat.le_refl _, S2, BS.out.1, fun h h1 h2 => ?_⟩
          have e1 := (cfR_neg xa xh).1 hlv
          rw [← XH.out.1, ← XH.out.2] at e1
          have y1 := C5.out h (by omega) (by omega)
          have e2 := HL.out.le (i := (i + j) / 2) (j := h) (by omega) h1 (by omega)
          have e3 := HR.out.le (i := mid + m - 1 - h) (j := mid + m - 1 - (i + j) / 2) (by omega) (by omega) (by omega)
          omega
      · have hlb : (!decide (cfR xa xh < 0)) = true := by simp; omega
        go_wp2_with fail
        go_quiet_grown (first | (go_at_call 157; refine Calls.grown_of (hcg _ _)))
        have S2 : Aside (SWK encR 2 w0 blk off d (grow (wr.drewN nq) osq)) := S1.out.grown nq osq
        go_wp2
        go_roundg (j - ((i + j) / 2 + 1))
        case measure => omega
        case rel =>
          refine ⟨(i + j) / 2 + 1, j, by go_num, rfl, by omega, by omega, hjb, Nat.le_refl _, S2, fun h h1 h2 => ?_, BS.out.2⟩
          have e1 : ¬ xh.1 < xa.1 := fun k => by have := (cfR_neg xa xh).2 k; omega
          rw [← XH.out.1, ← XH.out.2] at e1
          have y1 := C5.out h (by omega) (by omega)
          have e2 := HL.out.le (i := h) (j := (i + j) / 2) (by omega) (by omega) (by omega)
          have e3 := HR.out.le (i := mid + m - 1 - (i + j) / 2) (j := mid + m - 1 - h) (by omega) (by omega) (by omega)
          omega
    · have hltz : ¬ (i : Int) < (j : Int) := by omega
      obtain rfl : i = j := by omega
      obtain ⟨e, he1, he2⟩ : ∃ e : Nat, e + i ≤ mid + m ∧ mid + m ≤ e + i := ⟨mid + m - i, by omega, by omega⟩
      go_upto_region 39 with fail
      generalize hez : ((mid : Int) + (m : Int)) - (i : Int) = ez
      obtain rfl : ez = (e : Int) := by omega
      clear hez
      have CT : Aside (Cut d mid m i s0 r0) := ⟨hmi, hjb, BS.out.1, BS.out.2⟩
      clear BS hij hkx hlt hltz
      have him : i ≤ mid := by omega
      have hme : mid ≤ e := by omega
      have heb : e ≤ b := by omega
      have hie : i ≤ m := by omega
      have hm_e : m ≤ e := by omega
      have hai : a ≤ i := by omega
      go_cut [185] from 178 to 184 (fun s185 wx => wx = wr ∧ s185 = .bool (decide (i < m ∧ m < e)))
      case first =>
        by_cases h1 : i < m
        · have h1z : (i : Int) < (m : Int) := by omega
          by_cases h2 : m < e
          · have h2z : (m : Int) < (e : Int) := by omega
            go_wp2
            go_meet
            case rel => exact ⟨rfl, by simp [h1, h2]⟩
          · have h2z : ¬ (m : Int) < (e : Int) := by omega
            go_wp2
            go_meet
            case rel => exact ⟨rfl, by simp [h2]⟩
        · have h1z : ¬ (i : Int) < (m : Int) := by omega
          go_wp2
          go_meet
          case rel => exact ⟨rfl, by simp [h1]⟩
      case rest =>
      obtain ⟨rfl, rfl⟩ := hcut
      go_upto_if 185 with fail
      go_cut [185] from 186 to 191 (fun _ wx => ∃ d1 : RA, d1.size = d0.size ∧ Aside (SWK encR 2 w0 blk off d1 wx ∧ PermIn a b d d1 ∧ IsRot d d1 i m e))
      case first =>
        by_cases h1 : i < m ∧ m < e
        · have h1b : decide (i < m ∧ m < e) = true := decide_eq_true h1
          go_wp2_with fail
          go_at_call 169
          refine (rotate_any blk off cap i m e d0 d w0 wc R hs S1.out h1.1 h1.2 (by omega) hsz).mono ?_
          rintro e' w' ⟨rfl, d1, x1, x2, x3⟩
          have X : Aside (SWK encR 2 w0 blk off d1 w' ∧ PermIn a b d d1 ∧ IsRot d d1 i m e) := ⟨x1, permIn_mono _ _ i e a b hai heb (by omega) x2, x3⟩
          have xs : d1.size = d0.size := by rw [x2.1]; exact hs
          clear x1 x2 x3
          go_wp2
          go_meet
          case rel => exact ⟨d1, xs, X⟩
        · have h1b : decide (i < m ∧ m < e) = false := decide_eq_false h1
          go_wp2
          go_meet
          case rel => exact ⟨d, hs, S1.out, permIn_refl _ _ _, IsRot.none (by omega)⟩
      case rest =>
      obtain ⟨d1, xs, X⟩ := hcut
      go_upto_region 41 with fail
      go_cut [199] from 192 to 198 (fun s199 wx => wx = wc ∧ s199 = .bool (decide (a < i ∧ i < mid)))
      case first =>
        by_cases h1 : a < i
        · have h1z : (a : Int) < (i : Int) := by omega
          by_cases h2 : i < mid
          · have h2z : (i : Int) < (mid : Int) := by omega
            go_wp2
            go_meet
            case rel => exact ⟨rfl, by simp [h1, h2]⟩
          · have h2z : ¬ (i : Int) < (mid : Int) := by omega
            go_wp2
            go_meet
            case rel => exact ⟨rfl, by simp [h2]⟩
        · have h1z : ¬ (a : Int) < (i : Int) := by omega
          go_wp2
          go_meet
          case rel => exact ⟨rfl, by simp [h1]⟩
      case rest =>
      obtain ⟨rfl, rfl⟩ := hcut
      obtain ⟨hX1, hX2, hX3⟩ := X.out
      obtain ⟨q1, q2, q3, q4, q5, q6, q7⟩ := cut_parts (by omega) (by omega) HL.out HR.out HC.out MD.out CT.out (show e = mid + m - i by omega) hX3
      have XS : Aside (SWK encR 2 w0 blk off d1 wc) := hX1
      have XP : Aside (PermIn a b d d1) := hX2
      have Q1 : Aside (Srt d1 a i ∧ Srt d1 i mid ∧ Crs d1 a i mid) := ⟨q1, q2, q3⟩
      have Q2 : Aside (Srt d1 mid e ∧ Srt d1 e b ∧ Crs d1 mid e b) := ⟨q4, q5, q6⟩
      have Q3 : Aside (∀ i j, a ≤ i → i < mid → mid ≤ j → j < b → lt2 d1[i]! d1[j]!) := q7
      clear hX1 hX2 hX3 q1 q2 q3 q4 q5 q6 q7 X
      go_upto_if 199 with fail
      go_cut [199] from 200 to 205 (fun _ wx => ∃ d2 : RA, d2.size = d0.size ∧ Aside (SWK encR 2 w0 blk off d2 wx ∧ PermIn a mid d1 d2 ∧ Srt d2 a mid))
      case first =>
        by_cases h1 : a < i ∧ i < mid
        · have h1b : decide (a < i ∧ i < mid) = true := decide_eq_true h1
          go_wp2_with fail
          go_at_call 167
          refine (I.out a i mid d1 wc (by omega) xs XS.out h1.1 h1.2 (by omega) Q1.out.1 Q1.out.2.1 Q1.out.2.2).mono ?_
          rintro e' w' ⟨rfl, d2, x1, x2, x3⟩
          have X : Aside (SWK encR 2 w0 blk off d2 w' ∧ PermIn a mid d1 d2 ∧ Srt d2 a mid) := ⟨x1, x2, x3⟩
          have xs2 : d2.size = d0.size := by rw [x2.1]; exact xs
          clear x1 x2 x3
          go_wp2
          go_meet
          case rel => exact ⟨d2, xs2, X⟩
        · have h1b : decide (a < i ∧ i < mid) = false := decide_eq_false h1
          go_wp2
          go_meet
          case rel =>
            refine ⟨d1, xs, XS.out, permIn_refl _ _ _, ?_⟩
            rcases Nat.lt_or_ge a i with k | k
            · rw [show mid = i by omega]; exact Q1.out.1
            · have : a = i := by omega
              rw [this]; exact Q1.out.2.1
      case rest =>
      obtain ⟨d2, xs2, X2⟩ := hcut
      go_upto_region 43 with fail
      go_cut [213] from 206 to 212 (fun s213 wx => wx = wc ∧ s213 = .bool (decide (mid < e ∧ e < b)))
      case first =>
        by_cases h1 : mid < e
        · have h1z : (mid : Int) < (e : Int) := by omega
          by_cases h2 : e < b
          · have h2z : (e : Int) < (b : Int) := by omega
            go_wp2
            go_meet
            case rel => exact ⟨rfl, by simp [h1, h2]⟩
          · have h2z : ¬ (e : Int) < (b : Int) := by omega
            go_wp2
            go_meet
            case rel => exact ⟨rfl, by simp [h2]⟩
        · have h1z : ¬ (mid : Int) < (e : Int) := by omega
          go_wp2
          go_meet
          case rel => exact ⟨rfl, by simp [h1]⟩
      case rest =>
      obtain ⟨rfl, rfl⟩ := hcut
      have KEEP : ∀ t, mid ≤ t → d2[t]! = d1[t]! := fun t ht => X2.out.2.1.2.1 t (.inr ht)
      have Q2' : Aside (Srt d2 mid e ∧ Srt d2 e b ∧ Crs d2 mid e b) := by
        refine ⟨fun x y h1 h2 h3 => ?_, fun x y h1 h2 h3 => ?_, fun x y h1 h2 h3 h4 => ?_⟩
        · rw [KEEP x h1, KEEP y (by omega)]; exact Q2.out.1 x y h1 h2 h3
        · rw [KEEP x (by omega), KEEP y (by omega)]; exact Q2.out.2.1 x y h1 h2 h3
        · rw [KEEP x (by omega), KEEP y (by omega)]; exact Q2.out.2.2 x y h1 h2 h3 h4
      clear KEEP
      by_cases h1 : mid < e ∧ e < b
      · have h1b : decide (mid < e ∧ e < b) = true := decide_eq_true h1
        go_wp2_with fail
        go_at_call 167
        refine (I.out mid e b d2 wc (by omega) xs2 X2.out.1 h1.1 h1.2 hb Q2'.out.1 Q2'.out.2.1 Q2'.out.2.2).mono ?_
        rintro e' w' ⟨rfl, d3, x1, x2, x3⟩
        have X3 : Aside (SWK encR 2 w0 blk off d3 w' ∧ PermIn mid b d2 d3 ∧ Srt d3 mid b) := ⟨x1, x2, x3⟩
        clear x1 x2 x3
        go_wp2
        go_end0
        refine ⟨rfl, d3, X3.out.1, ?_, join_sorted (d1 := d1) (d2 := d2) (by omega) Q3.out X2.out.2.1 X2.out.2.2 X3.out.2.1 X3.out.2.2⟩
        exact permIn_trans _ _ _ _ _ XP.out (permIn_trans _ _ _ _ _ (permIn_mono _ _ a mid a b (Nat.le_refl _) (by omega) (by omega) X2.out.2.1) (permIn_mono _ _ mid b a b (by omega) (Nat.le_refl _) (by omega) X3.out.2.1))
      · have h1b : decide (mid < e ∧ e < b) = false := decide_eq_false h1
        go_wp2
        go_end0
        have s3 : Srt d2 mid b := by
          rcases Nat.lt_or_ge e b with k | k
          · have : mid = e := by omega
            rw [this]; exact Q2'.out.2.1
          · rw [show b = e by omega]; exact Q2'.out.1
        refine ⟨rfl, d2, X2.out.1, ?_, join_sorted (d1 := d1) (d2 := d2) (by omega) Q3.out X2.out.2.1 X2.out.2.2 (permIn_refl _ _ _) s3⟩
        exact permIn_trans _ _ _ _ _ XP.out (permIn_mono _ _ a mid a b (Nat.le_refl _) (by omega) (by omega) X2.out.2.1)
end Go.Proofs.YtdnaegleifhmgaaGreat
end
section
namespace Go.Proofs.YtdnaegleifhmgaaGreat
open Go.RowKit Go.Lib Go.Tk Go.Sort Go.Shelf
attribute [-go_sem] loadCellsFrom
set_option maxHeartbeats 4000000 in
set_option maxRecDepth 1000000 in
theorem insertion_any (blk off cap a b : Nat) (d0 d : RA) (w0 w : World) (R : RowK encR 2 w0 blk off d0) (hs : d.size = d0.size) (S : SWK encR 2 w0 blk off d w)
    (hab : a ≤ b) (hb : b ≤ d0.size) (hsz : d0.size < 4611686018427387904) :
    Calls Tryz.prog 166 #[.slice (some ⟨blk, off, none⟩) d0.size cap, .int .i64 a, .int .i64 b, .func (.func 157) #[] #[]] w fun e w' =>
      e = .returned (.tuple #[]) ∧ SWK encR 2 w0 blk off (insertionSort ltR d a b) w' := by
  have mixed := Tryz.mixed
  have S0 : Aside (SWK encR 2 w0 blk off d w) := S
  clear S
  go_enter Tryz.func166, Tryz.ntmps166
  go_wp2
  go_loopg [8] (b - a) (fun g1 vi wr => ∃ (i : Nat) (dk : RA), vi = .int .i64 i ∧ a < i ∧ i ≤ b + 1 ∧ b + 1 - i ≤ g1 + 1 ∧ dk.size = d0.size ∧ Aside (SWK encR 2 w0 blk off dk wr) ∧ Hid (insOuter ltR a b i dk = insOuter ltR a b (a + 1) d))
  case atStart => exact ⟨a + 1, d, by go_num, by omega, by omega, by omega, hs, S0, rfl⟩
  case round =>
    clear S0
    obtain ⟨i, dk, rfl, hai, hib, hg1, hsk, S1, HO⟩ := hrel
    by_cases hlt : i < b
    · have hltz : (i : Int) < (b : Int) := by omega
      go_wp2
      go_loopg [9] i (fun g2 vj wr2 => ∃ (j : Nat) (dj : RA), vj = .int .i64 j ∧ a ≤ j ∧ j ≤ i ∧ j ≤ g2 ∧ dj.size = d0.size ∧ Aside (SWK encR 2 w0 blk off dj wr2) ∧ Hid (insInner ltR a j dj = insInner ltR a i dk))
      case atStart => exact ⟨i, dk, rfl, by omega, Nat.le_refl _, Nat.le_refl _, hsk, S1, rfl⟩
      case round =>
        clear S1
        obtain ⟨j, dj, rfl, haj, hji, hg2, hsj, S2, HI⟩ := hrel
        have out : (j ≤ a ∨ ltR dj[j]! dj[j - 1]! = false) → Hid (insOuter ltR a b (i + 1) dj = insOuter ltR a b (a + 1) d) := fun hs => by
          show _ = _
          rw [← HO.out, insOuter_go _ _ _ _ _ hlt, ← HI.out, insInner_stop _ _ _ _ hs]
        have OUT : Aside _ := out
        clear out
        by_cases hja : a < j
        · obtain ⟨jp, rfl⟩ : ∃ jp, j = jp + 1 := ⟨j - 1, by omega⟩
          obtain ⟨xj, hxj⟩ : ∃ x, dj[jp + 1]! = x := ⟨_, rfl⟩
          obtain ⟨xp, hxp⟩ : ∃ x, dj[jp]! = x := ⟨_, rfl⟩
          have lj := S2.out.ld R hsj Tryz.prog (jp + 1) (by omega)
          have lp := S2.out.ld R hsj Tryz.prog jp (by omega)
          have hcg : ∀ n' os', Calls Tryz.prog 157 #[.agg (encR xj).toArray, .agg (encR xp).toArray] (grow (wr.drewN n') os') fun e w' => e = .returned (.int .i64 (cfR xj xp)) ∧ ∃ q os'', w' = grow ((grow (wr.drewN n') os').drewN q) os'' :=
            fun n os => S2.out.cmp (cmp_lays blk off d0.size w0) hsj xj xp n os
          rw [hxj] at lj
          rw [hxp] at lp
          have XH : Hid (dj[jp + 1]! = xj ∧ dj[jp]! = xp) := ⟨hxj, hxp⟩
          clear hxj hxp
          have f1 : (a : Int) < (jp : Int) + 1 := by omega
          have f2 : (0 : Int) ≤ (jp : Int) + 1 := by omega
          have f3 : (jp : Int) + 1 < (d0.size : Int) := by omega
          have f4 : ((jp : Int) + 1).toNat = jp + 1 := by omega
          have f5 : (0 : Int) ≤ (jp : Int) := by omega
          have f6 : (jp : Int) < (d0.size : Int) := by omega
          have f7 : IntKind.i64.wrap (jp : Int) = (jp : Int) := by rw [IntKind.wrap_i64]; omega
          have f8 : (jp : Int) + 1 - 1 = (jp : Int) := by omega
          by_cases hlv : cfR xj xp < 0
          · go_wp2_with fail
            go_quiet_grown (first | (go_at_call 157; refine Calls.grown_of (hcg _ _)))
            have S3 : Aside (SWK encR 2 w0 blk off dj (grow (wr.drewN nq) osq)) := S2.out.grown nq osq
            clear S2 lj lp hcg
            generalize grow (wr.drewN nq) osq = w3 at S3 ⊢
            go_wp2_with fail
            have S4 : Aside (SWK encR 2 w0 blk off (swp dj (jp + 1) jp) ((w3.drew.setCells blk (off + (jp + 1) * 2) (encR dj[jp]!)).setCells blk (off + jp * 2) (encR dj[jp + 1]!))) := S3.out.swapped R (jp + 1) jp (by omega) (by omega)
            have l1 := S3.out.ld1 R hsj Tryz.prog (jp + 1) (by omega)
            have l2 := S3.out.ld1 R hsj Tryz.prog jp (by omega)
            have s1 := S3.out.st1 R hsj Tryz.prog (jp + 1) (by omega) dj[jp]!
            have s2 := S3.out.st2 R hsj Tryz.prog (jp + 1) jp (by omega) (by omega) dj[jp]! dj[jp + 1]!
            have n1 : (encR dj[jp + 1]!).length = 2 := R.hk _
            have n2 : (encR dj[jp]!).length = 2 := R.hk _
            generalize encR dj[jp + 1]! = cI at S4 l1 s2 n1
            generalize encR dj[jp]! = cJ at S4 l2 s1 s2 n2
            clear S3
            go_wp2_with fail
            go_big_region_o
            clear l1 l2 s1 s2
            generalize (w3.drew.setCells blk (off + (jp + 1) * 2) cJ).setCells blk (off + jp * 2) cI = w2 at S4 ⊢
            go_wp2
            go_roundg jp
            case measure => omega
            case rel =>
              refine ⟨jp, swp dj (jp + 1) jp, by first | rfl | go_num | (congr 1; omega), by omega, by omega, Nat.le_refl _, by rw [size_swp]; exact hsj, S4, (show Hid _ from ?_)⟩
              show _ = _
              have e1 := insInner_go ltR a (jp + 1) dj hja (by simp only [Nat.add_sub_cancel]; rw [XH.out.1, XH.out.2]; exact decide_eq_true hlv)
              simp only [Nat.add_sub_cancel] at e1
              rw [← HI.out, e1]
          · go_wp2_with fail
            go_quiet_grown (first | (go_at_call 157; refine Calls.grown_of (hcg _ _)))
            have S3 : Aside (SWK encR 2 w0 blk off dj (grow (wr.drewN nq) osq)) := S2.out.grown nq osq
            go_wp2
            go_roundg (b - (i + 1))
            case measure => omega
            case rel => exact ⟨i + 1, dj, by go_num, by omega, by omega, by omega, hsj, S3, OUT.out (Or.inr (by simp only [Nat.add_sub_cancel]; rw [XH.out.1, XH.out.2]; exact decide_eq_false (by omega)))⟩
        · have hjaz : decide ((j : Int) > (a : Int)) = false := decide_eq_false (by omega)
          have hjaz' : ¬ (a : Int) < (j : Int) := by omega
          have S3 : Aside (SWK encR 2 w0 blk off dj wr.drew) := S2.out.drew
          clear S2
          go_wp2_with fail
          go_big_region_o
          all_goals go_wp2
          go_roundg (b - (i + 1))
          case measure => omega
          case rel => exact ⟨i + 1, dj, by go_num, by omega, by omega, by omega, hsj, S3, OUT.out (Or.inl (by omega))⟩
    · have hltz : ¬ (i : Int) < (b : Int) := by omega
      go_wp2
      go_end0
      refine ⟨rfl, ?_⟩
      have : insertionSort ltR d a b = dk := by unfold insertionSort; rw [← HO.out, insOuter_stop _ _ _ _ _ hlt]
      rw [this]; exact S1.out
end Go.Proofs.YtdnaegleifhmgaaGreat
end
section
namespace Go.Proofs.YtdnaegleifhmgaaGreat
open Go.RowKit Go.Lib Go.Tk Go.Sort Go.Shelf
theorem symMerge_any (blk off cap : Nat) (d0 : RA) (w0 : World) (R : RowK encR 2 w0 blk off d0) (hsz : d0.size < 4611686018427387904) :
    ∀ (N a m b : Nat) (d : RA) (w : World), b - a ≤ N → d.size = d0.size → SWK encR 2 w0 blk off d w → a < m → m < b → b ≤ d0.size → Srt d a m → Srt d m b → Crs d a m b →
      Calls Tryz.prog 167 #[.slice (some ⟨blk, off, none⟩) d0.size cap, .int .i64 a, .int .i64 m, .int .i64 b, .func (.func 157) #[] #[]] w fun e w' =>
        e = .returned (.tuple #[]) ∧ ∃ d', SWK encR 2 w0 blk off d' w' ∧ PermIn a b d d' ∧ Srt d' a b
  | 0, a, m, b, d, w, hN, _, _, ham, hmb, _, _, _, _ => by omega
  | N + 1, a, m, b, d, w, hN, hs, S, ham, hmb, hb, hL, hR, hC => by
    rcases Nat.lt_or_ge (a + 1) m with h1 | h1
    · rcases Nat.lt_or_ge (m + 1) b with h2 | h2
      · exact symMany_any blk off cap a m b d0 d w0 w R hs S (fun a' m' b' d' w' hlt x1 x2 x3 x4 x5 x6 x7 x8 => symMerge_any blk off cap d0 w0 R hsz N a' m' b' d' w' (by omega) x1 x2 x3 x4 x5 x6 x7 x8) h1 h2 hb hsz hL hR hC
      · obtain rfl : b = m + 1 := by omega
        exact symLast_any blk off cap a m (m + 1) d0 d w0 w R hs S h1 (by omega) (by omega) hb hsz hL hC
    · obtain rfl : m = a + 1 := by omega
      exact symOne_any blk off cap a b d0 d w0 w R hs S hmb hb hsz hR hC _ rfl
end Go.Proofs.YtdnaegleifhmgaaGreat
end
