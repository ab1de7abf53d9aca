/- PRORATE: the document's own Share, where nothing is wrong. -/
import Derived.Test.YtnkghdakjdhhdaaGreatM9205040
namespace Go.Proofs.YtnkghdakjdhhdaaGreat
set_option maxRecDepth 100000
open Go.RowKit Go.Lib Go.Tk Go.Sort Go.Shelf
theorem ownsRow_cell {w : World} {base : Nat} {e : TypeId} {g n cap : Nat} {xs : List Int} (h : w.ownsRow base e 1 (.slice (some ⟨g, 0, none⟩) n cap) n (xs.map (.int .i64))) (hl : xs.length = n) {q : Nat} (hq : q < n) : w.cell? ⟨g, q, none⟩ = some (.int .i64 (xs.getD q 0)) := by
  rw [h.cellAt q (by omega)]
  simp [List.getD_eq_getElem?_getD, hl, hq]
theorem grownBy_setCell (w : World) (b o : Nat) (u : Value) : w.grownBy (w.setCell ⟨b, o, none⟩ u) (some b) :=
  ⟨rfl, rfl, rfl, by simp, fun k _ hne => Below.heap_setCell w _ _ _ (by intro e; exact hne (by rw [e]))⟩
theorem ownsRow_set_other {w : World} {base : Nat} {e : TypeId} {size g n cap b o : Nat} {u : Value} {xs : List Value} (h : w.ownsRow base e size (.slice (some ⟨g, 0, none⟩) n cap) n xs) (hne : b ≠ g) : (w.setCell ⟨b, o, none⟩ u).ownsRow base e size (.slice (some ⟨g, 0, none⟩) n cap) n xs :=
  h.kept (grownBy_setCell w b o u) (.inr (by simpa [Value.ownBlock] using Ne.symm hne))
set_option maxHeartbeats 4000000 in
set_option maxRecDepth 100000 in
theorem rshare_good (t : Int) (ws : List Int) (a : Option Addr) (cap : Nat) (w : World) (hr : Row w a (ws.map (.int .u32))) (hp : PosRow ws) (h : ws.length ≤ 64) (hz : shareE t ws = 0) :
    Calls Tryz.prog 126 #[.int .i64 t, .slice a ws.length cap] w (ShareOut t ws w) := by
  have Hr := hid hr
  have HP : Aside (PosRow ws) := hp
  have HZ := hid hz
  have hsum0 : 0 < ws.sum := by
    have h1 : ws.sum ≠ 0 := fun e => by unfold shareE at hz; rw [if_neg (by omega), if_pos e] at hz; cases hz
    have := (take_sum_bd hp ws.length).1
    rw [List.take_length] at this; omega
  have hsum1 : ws.sum ≤ 274877906880 := by
    have := (take_sum_bd hp ws.length).2
    rw [List.take_length] at this
    have : (ws.length : Int) * 4294967295 ≤ 64 * 4294967295 := Int.mul_le_mul_of_nonneg_right (by omega) (by omega)
    omega
  obtain ⟨ht0, ht1⟩ : 0 ≤ t ∧ t ≤ 1125899906842624 := by
    unfold shareE at hz
    rw [if_neg (by omega), if_neg (by omega)] at hz
    split at hz
    · assumption
    · cases hz
  clear hr hp hz
  have h' : ¬ (64 : Int) < (ws.length : Int) := by omega
  go_enter Tryz.func126, Tryz.ntmps126
  go_wp2
  go_loop [6, 7] (fun s i => ∃ (k : Nat) (x : Int), k ≤ ws.length ∧ i = .int .i64 k ∧ s = .int .i64 x ∧ Hid (x = (ws.take k).sum) ∧ 0 ≤ x ∧ x ≤ k * 4294967295) (fun _ i => ws.length - (intOf i).toNat)
  case atStart => exact ⟨0, 0, Nat.zero_le _, rfl, rfl, hid (by simp), by omega, by omega⟩
  case round =>
    obtain ⟨k, s, hk, rfl, rfl, hs, hs0, hs1⟩ := hrel
    by_cases hlt : k < ws.length
    · obtain ⟨b, off, rfl, hc⟩ := Hr.out.int k hlt
      have hx := posrow_get HP.out hlt
      generalize hxe : ws.getD k 0 = x at *
      have HX := hid hxe
      clear hxe
      go_wp2
      go_round
      case rel => exact ⟨k + 1, s + x, by omega, by go_num, rfl, hid (by rw [sum_take_succ hlt, ← hs.out, HX.out]), by omega, by omega⟩
      case measure => simp [intOf]; omega
    · obtain rfl : k = ws.length := by omega
      have hsum : s = ws.sum := by rw [hs.out, List.take_length]
      have HS := hid hsum
      have hs2 : 0 < s := by omega
      have hs3 : s ≤ 274877906880 := by omega
      clear hs hsum hk hlt hs0 hs1 hsum0 hsum1
      have hz' : (s == 0) = false := by simp; omega
      have hd : decide (t < 0) = false := decide_eq_false (by omega)
      have he : mayI t = true := by simp [mayI, ht1]; omega
      go_wp2_with fail
      refine (rmay_any _ _).mono ?_
      rintro e w1 ⟨rfl, rfl⟩
      go_wp2
      clear hz' hd he
      go_loopw [8, 9, 10, 11] (fun s9 s10 s11 s47 wr => ∃ (k : Nat) (vo vr : Value) (lf : Int), k ≤ ws.length ∧ s47 = .int .i64 k ∧ s9 = vo ∧ s10 = vr ∧ s11 = .int .i64 lf ∧ 0 ≤ lf ∧ lf ≤ t ∧ Hid (lf = t - (whC t s ws k).sum) ∧
          Aside (wr.ownsRow w.heap.size 2 1 vo k ((whC t s ws k).map (.int .i64))) ∧ Aside (wr.ownsRow w.heap.size 2 1 vr k (((ws.take k).map (rs t s)).map (.int .i64))) ∧ Aside (Apart vo vr) ∧ Aside (Below w.heap.size w wr)) (fun _ _ _ i _ => ws.length - (intOf i).toNat)
      case atStart => exact ⟨0, _, _, t, Nat.zero_le _, rfl, rfl, rfl, rfl, ht0, Int.le_refl _, hid (by simp [whC]), World.ownsRow_nil _ _ _ _, World.ownsRow_nil _ _ _ _, Apart.nil _, Below.refl _ _⟩
      case round =>
        obtain ⟨k, vo, vr, lf, hk, rfl, rfl, rfl, rfl, hlf0, hlf1, HL, O1, R1, A1, B1⟩ := hrel
        by_cases hlt : k < ws.length
        · obtain ⟨b, off, rfl, hc⟩ := (Hr.out.kept B1.out).int k hlt
          have hx := posrow_get HP.out hlt
          have hxs : ws.getD k 0 ≤ s := by
            have e : ws.getD k 0 = ws[k] := by simp [List.getD_eq_getElem?_getD, hlt]
            rw [HS.out, e]; exact le_sum ws (fun y hy => (HP.out y hy).1) _ (List.getElem_mem hlt)
          generalize hxe : ws.getD k 0 = x at *
          have HX := hid hxe
          have hw1 := wh_bd ht0 hs2 hx.1 hxs
          have hw2 := rs_bd t s x hs2
          have hp := partOk_of ht0 ht1 hs2 hs3 hx.1 hxs
          have hlb := left_bd HP.out ht0 (by rw [← HS.out]; exact hs2) (k + 1)
          rw [← HS.out, whC_succ hlt, hxe, List.sum_append_int] at hlb
          have hrk : (ws.take (k + 1)).map (rs t s) = (ws.take k).map (rs t s) ++ [rs t s x] := by
            rw [List.take_succ_eq_append_getElem hlt, List.map_append, ← hxe]; simp [List.getD_eq_getElem?_getD, hlt]
          have e1 : partW t x s = wh t s x := by unfold partW; rw [if_pos hp]; rfl
          have e2 : partR t x s = rs t s x := by unfold partR; rw [if_pos hp]; rfl
          have e3 : partE t x s = 0 := by unfold partE; rw [if_pos hp]
          have key := rpart_any t x s wr
          rw [e1, e2, e3] at key
          generalize hwe : wh t s x = a at *
          generalize hre : rs t s x = r at *
          have HW := hid hwe
          have HRK := hid hrk
          have hl2 : 0 ≤ lf - a ∧ lf - a ≤ t := by
            rw [HL.out]; simp at hlb; omega
          have KEY := hid key
          clear hxe e1 e2 e3 key hwe hre hlb hp hrk
          go_wp2_with fail
          refine KEY.out.mono ?_
          rintro e w2 ⟨rfl, rfl⟩
          have hmx : k + 1 ≤ maxLen := by unfold maxLen; omega
          have hm8 : (k + 1) * 8 ≤ 140737488355328 := by omega
          have hbs : w.heap.size ≤ wr.heap.size + 1 := Nat.le_succ_of_le B1.out.size
          have HI := hid i64row2
          clear KEY
          go_wp2_with (first
            | (at_builtin; refine wpList_append_row_at rfl (.tmp 61) (.tmp 63) 65 rfl w.heap.size 2 (.int .i64 0) 1 8 Tryz.underlying65 HI.out rfl (by decide) _ k _ rfl (World.ownsRow.alloc O1.out _) _ 1 1 [.int .i64 a] rfl (by simp) (row_new (by simp)) rfl (by simp [Value.oneCell']) hmx hm8 (by simpa using hbs) ?_; intro v1 w3 ho1 hg1 hat1)
            | (at_builtin; refine wpList_append_row_at rfl (.tmp 65) (.tmp 67) 65 rfl w.heap.size 2 (.int .i64 0) 1 8 Tryz.underlying65 HI.out rfl (by decide) _ k _ rfl (World.ownsRow.alloc (ownsRow_other (World.ownsRow.alloc R1.out _) hg1 A1.out) _) _ 1 1 [.int .i64 r] rfl (by simp) (row_new (by simp)) rfl (by simp [Value.oneCell']) hmx hm8 (by have := hg1.size; simp at this ⊢; omega) ?_; intro v2 w4 ho2 hg2 hat2))
          have hg1' : (wr.alloc (.cells #[.int .i64 a] 2)).grownBy w3 u8.ownBlock := hg1
          have hat1' : v1.ownBlock = u8.ownBlock ∨ v1.ownBlock = some (wr.alloc (.cells #[.int .i64 a] 2)).heap.size := hat1
          have hg2' : (w3.alloc (.cells #[.int .i64 r] 2)).grownBy w4 u9.ownBlock := hg2
          have hat2' : v2.ownBlock = u9.ownBlock ∨ v2.ownBlock = some (w3.alloc (.cells #[.int .i64 r] 2)).heap.size := hat2
          clear hg1 hg2 hat1 hat2
          have r3 := World.ownsRow.alloc R1.out (.cells #[.int .i64 a] 2)
          have ap1 : Apart v1 u9 := apart_grown r3 A1.out hat1'
          have r4 := World.ownsRow.alloc (ownsRow_other r3 hg1' A1.out) (.cells #[.int .i64 r] 2)
          have o4 := World.ownsRow.alloc ho1 (.cells #[.int .i64 r] 2)
          have ap2 : Apart v2 v1 := apart_grown o4 ap1.symm hat2'
          have b3 : Below w.heap.size w w3 := (B1.out.alloc B1.out.size _).grown hg1' (by have := B1.out.size; simp; omega) (fun g e => (World.ownsRow.lt O1.out g e).1)
          have b4 : Below w.heap.size w w4 := (b3.alloc b3.size _).grown hg2' (by have := b3.size; simp; omega) (fun g e => (World.ownsRow.lt R1.out g e).1)
          have AP : Aside (Apart v1 v2) := ap2.symm
          have B4 : Aside (Below w.heap.size w w4) := b4
          have O4 : Aside (w4.ownsRow w.heap.size 2 1 v1 (k + 1) ((whC t s ws (k + 1)).map (.int .i64))) := by
            show World.ownsRow _ _ _ _ _ _ _
            have := ownsRow_other o4 hg2' ap1.symm
            rw [whC_succ hlt, HX.out, HW.out, List.map_append]
            exact this
          have R4 : Aside (w4.ownsRow w.heap.size 2 1 v2 (k + 1) (((ws.take (k + 1)).map (rs t s)).map (.int .i64))) := by
            show World.ownsRow _ _ _ _ _ _ _
            rw [HRK.out, List.map_append]
            exact ho2
          have HL2 : Hid (lf - a = t - (whC t s ws (k + 1)).sum) := by
            show _ = _
            rw [whC_succ hlt, HX.out, HW.out, List.sum_append_int, HL.out]; simp; omega
          clear hg1' hat1' hg2' hat2' ho1 ho2 r3 r4 o4 ap1 ap2 b3 b4 O1 R1 A1 B1
          go_roundw
          case measure => simp [intOf]; omega
          case rel => exact ⟨k + 1, v1, v2, lf - a, by omega, by go_num, rfl, rfl, rfl, hl2.1, hl2.2, HL2, O4, R4, AP, B4⟩
        · obtain rfl : k = ws.length := by omega
          have hn0 : 0 < ws.length := by
            rcases Nat.eq_zero_or_pos ws.length with e | e
            · have : ws = [] := List.length_eq_zero_iff.1 e
              have h1 := HS.out
              rw [this] at h1; simp at h1; omega
            · exact e
          obtain ⟨g2, c2, hv2, hg2b, hg2l⟩ := owns_form (show wr.ownsRow w.heap.size 2 1 u9 ws.length _ from R1.out) hn0
          obtain ⟨g1, c1, hv1, hg1b, hg1l⟩ := owns_form (show wr.ownsRow w.heap.size 2 1 u8 ws.length _ from O1.out) hn0
          subst hv2 hv1
          obtain ⟨L, hL⟩ : ∃ L : Nat, lf = L := ⟨lf.toNat, by omega⟩
          subst hL
          have HLN : Hid (L = leftN t s ws) := by
            have h1 := HL.out
            show _ = _
            unfold leftN
            unfold whC at h1
            rw [List.take_length] at h1; omega
          have hLn : L < ws.length := by
            have := left_lt t ws (by rw [← HS.out]; exact hs2)
            rw [HLN.out, HS.out]; exact this
          have hne : g1 ≠ g2 := by
            rcases A1.out with h | h | h
            · cases h
            · cases h
            · simpa [Value.ownBlock] using h
          have O2 : Aside (wr.ownsRow w.heap.size 2 1 (.slice (some ⟨g1, 0, none⟩) ws.length c1) ws.length ((outC t ws 0).map (.int .i64))) := by
            rw [outC_zero, ← HS.out]
            exact O1.out
          have R2 : Aside (wr.ownsRow w.heap.size 2 1 (.slice (some ⟨g2, 0, none⟩) ws.length c2) ws.length ((restK t ws 0).map (.int .i64))) := by
            rw [restK_zero, ← HS.out]
            have := R1.out
            rw [List.take_length] at this
            exact this
          have B2 := B1
          clear O1 R1 A1 B1 hk hlt HL
          go_wp2
          go_loopw [10] (fun s10 wr => ∃ k : Nat, k ≤ L ∧ s10 = .int .i64 (L - k : Int) ∧ Aside (wr.ownsRow w.heap.size 2 1 (.slice (some ⟨g1, 0, none⟩) ws.length c1) ws.length ((outC t ws k).map (.int .i64))) ∧
            Aside (wr.ownsRow w.heap.size 2 1 (.slice (some ⟨g2, 0, none⟩) ws.length c2) ws.length ((restK t ws k).map (.int .i64))) ∧ Aside (Below w.heap.size w wr)) (fun i _ => (intOf i).toNat)
          case atStart => exact ⟨0, Nat.zero_le _, by simp, O2, R2, B2⟩
          case round =>
            clear O2 R2 B2
            obtain ⟨k, hk, rfl, O3, R3, B3⟩ := hrel
            by_cases hlt : k < L
            · have hkn : k < ws.length := by omega
              go_wp2
              go_loopw [15, 16] (fun s15 s16 wr => ∃ (i : Nat) (b : Int), i ≤ ws.length ∧ s16 = .int .i64 i ∧ s15 = .int .i64 b ∧ -1 ≤ b ∧ b < i ∧ Aside (Best t ws k i b) ∧ Aside (wr.ownsRow w.heap.size 2 1 (.slice (some ⟨g1, 0, none⟩) ws.length c1) ws.length ((outC t ws k).map (.int .i64))) ∧
                Aside (wr.ownsRow w.heap.size 2 1 (.slice (some ⟨g2, 0, none⟩) ws.length c2) ws.length ((restK t ws k).map (.int .i64))) ∧ Aside (Below w.heap.size w wr)) (fun _ i _ => ws.length - (intOf i).toNat)
              case atStart => exact ⟨0, -1, Nat.zero_le _, rfl, rfl, by omega, by omega, .inl ⟨rfl, fun j hj => absurd hj (Nat.not_lt_zero _)⟩, O3, R3, B3⟩
              case round =>
                clear O3 R3 B3
                obtain ⟨i, b, hi, rfl, rfl, hb0, hb1, HB, O4, R4, B4⟩ := hrel
                by_cases hlt2 : i < ws.length
                · have f1 := ownsRow_cell R4.out (restK_len _ _ _) hlt2
                  have rg1 := restK_get t ws k i hlt2
                  have hrb := rs_bd t ws.sum (ws.getD i 0) (by rw [← HS.out]; exact hs2)
                  have q0 : (0 : Int) ≤ (i : Int) := by omega
                  have q1 : (i : Int) < (ws.length : Int) := by omega
                  cases hc : chosen (restsL t ws.sum ws) k i with
                  | true =>
                    rw [hc, if_pos rfl] at rg1
                    rw [rg1] at f1
                    have HB2 : Aside (Best t ws k (i + 1) b) := best_skip HB.out hc
                    clear rg1 hc hrb HB
                    go_wp2_with fail
                    go_quiet (fail)
                    go_wp2
                    go_roundw
                    case measure => simp [intOf]; omega
                    case rel => exact ⟨i + 1, b, by omega, by go_num, rfl, hb0, by omega, HB2, ownsRow_below O4.out (drewN_below _ _), ownsRow_below R4.out (drewN_below _ _), bt B4.out (drewN_below _ _)⟩
                  | false =>
                    rw [hc, if_neg (by decide)] at rg1
                    rw [rg1] at f1
                    obtain ⟨x, hx⟩ : ∃ x, x = rs t ws.sum (ws.getD i 0) := ⟨_, rfl⟩
                    rw [← hx] at f1 hrb
                    have HX := hid hx
                    have HC := hid hc
                    obtain ⟨hrb0, hrb1⟩ := hrb
                    have d1 : decide (x ≥ 0) = true := decide_eq_true hrb0
                    clear rg1 hc hx hrb1
                    by_cases hbn : b = -1
                    · subst hbn
                      have HB2 : Aside (Best t ws k (i + 1) i) := best_first HB.out HC.out
                      clear HB
                      go_wp2_with fail
                      go_quiet (fail)
                      go_wp2
                      go_roundw
                      case measure => simp [intOf]; omega
                      case rel => exact ⟨i + 1, i, by omega, by go_num, rfl, by omega, by omega, HB2, ownsRow_below O4.out (drewN_below _ _), ownsRow_below R4.out (drewN_below _ _), bt B4.out (drewN_below _ _)⟩
                    · obtain ⟨q, hq⟩ : ∃ q : Nat, b = q := ⟨b.toNat, by omega⟩
                      subst hq
                      have hqc : chosen (restsL t ws.sum ws) k q = false := by
                        rcases HB.out with ⟨h, _⟩ | ⟨q', h, _, hc, _⟩
                        · omega
                        · have : q' = q := by omega
                          subst this; exact hc
                      have f2 := ownsRow_cell R4.out (restK_len _ _ _) (show q < ws.length by omega)
                      have rg2 := restK_get t ws k q (by omega)
                      rw [hqc, if_neg (by decide)] at rg2
                      rw [rg2] at f2
                      obtain ⟨y, hy⟩ : ∃ y, y = rs t ws.sum (ws.getD q 0) := ⟨_, rfl⟩
                      rw [← hy] at f2
                      have HY := hid hy
                      have d2 : decide ((q : Int) < 0) = false := decide_eq_false (by omega)
                      have q2 : (0 : Int) ≤ (q : Int) := by omega
                      have q3 : (q : Int) < (ws.length : Int) := by omega
                      clear rg2 hqc hy hbn
                      by_cases hxy : x > y
                      · have HB2 : Aside (Best t ws k (i + 1) i) := best_more HB.out HC.out (by rw [← HX.out, ← HY.out]; exact hxy)
                        have d3 : decide (x > y) = true := decide_eq_true hxy
                        clear HB hxy
                        go_wp2_with fail
                        go_quiet (fail)
                        go_wp2
                        go_roundw
                        case measure => simp [intOf]; omega
                        case rel => exact ⟨i + 1, i, by omega, by go_num, rfl, by omega, by omega, HB2, ownsRow_below O4.out (drewN_below _ _), ownsRow_below R4.out (drewN_below _ _), bt B4.out (drewN_below _ _)⟩
                      · have HB2 : Aside (Best t ws k (i + 1) q) := best_less HB.out (by rw [← HX.out, ← HY.out]; omega)
                        have d3 : decide (x > y) = false := decide_eq_false hxy
                        clear HB hxy
                        go_wp2_with fail
                        go_quiet (fail)
                        go_wp2
                        go_roundw
                        case measure => simp [intOf]; omega
                        case rel => exact ⟨i + 1, q, by omega, by go_num, rfl, by omega, by omega, HB2, ownsRow_below O4.out (drewN_below _ _), ownsRow_below R4.out (drewN_below _ _), bt B4.out (drewN_below _ _)⟩
                · obtain rfl : i = ws.length := by omega
                  have hbh := best_head hkn HB.out
                  have hqn := headAt_lt (t := t) hkn
                  have hoc := outC_succ (t := t) (ws := ws) (k := k) hkn
                  have hrc := restK_succ (t := t) (ws := ws) (k := k) hkn
                  have f3 := ownsRow_cell O4.out (outC_len _ _ _) hqn
                  have f4 := World.ownsRow.frozenAt O4.out (headAt t ws k)
                  have f5 := World.ownsRow.frozenAt R4.out (headAt t ws k)
                  have f6 := ownsRow_cell R4.out (restK_len _ _ _) hqn
                  have hyb : 0 ≤ (outC t ws k).getD (headAt t ws k) 0 ∧ (outC t ws k).getD (headAt t ws k) 0 ≤ t + 1 := by
                    rw [outC_get _ _ _ _ hqn]
                    have hx := posrow_get HP.out hqn
                    have e : ws.getD (headAt t ws k) 0 = ws[headAt t ws k] := by simp [List.getD_eq_getElem?_getD, hqn]
                    have := wh_bd (t := t) (S := ws.sum) ht0 (by rw [← HS.out]; exact hs2) hx.1 (by rw [e]; exact le_sum ws (fun y hy => (HP.out y hy).1) _ (List.getElem_mem hqn))
                    split <;> omega
                  have hoc' : outC t ws (k + 1) = (outC t ws k).set (headAt t ws k) ((outC t ws k).getD (headAt t ws k) 0 + 1) := hoc
                  clear hoc
                  generalize (restK t ws k).getD (headAt t ws k) 0 = z at f6
                  generalize (outC t ws k).getD (headAt t ws k) 0 = y at *
                  generalize headAt t ws k = q at *
                  subst hbh
                  have HOC := hid hoc'
                  have HRC := hid hrc
                  have hg1r : g1 < wr.heap.size := (World.ownsRow.lt O4.out g1 rfl).2
                  have hg2r : g2 < wr.heap.size := (World.ownsRow.lt R4.out g2 rfl).2
                  have hne' : g2 ≠ g1 := Ne.symm hne
                  clear HB hoc' hrc hi hlt2 hb0 hb1
                  go_wp2
                  go_roundw
                  case measure => simp [intOf]; omega
                  case rel =>
                    refine ⟨k + 1, by omega, by first | go_num | (congr 1; omega), ?_, ?_, (B4.out.setCell hg1b _).setCell hg2b _⟩
                    · refine ownsRow_set_other ?_ hne'
                      rw [HOC.out, List.map_set]
                      exact ownsRow_set O4.out q _
                    · rw [HRC.out, List.map_set]
                      exact ownsRow_set (ownsRow_set_other R4.out hne) q _
            · obtain rfl : k = L := by omega
              have e : shareV t ws = outC t ws k := by
                unfold shareV
                rw [if_pos HZ.out, HLN.out, HS.out]; rfl
              have E := hid e
              clear e
              go_wp2
              go_ret2
              refine ⟨.slice (some ⟨g1, 0, none⟩) ws.length c1, by rw [HZ.out]; rfl, ?_, B3.out, fun h => absurd HZ.out h⟩
              rw [E.out, outC_len]; exact O3.out
theorem rshare_any (t : Int) (ws : List Int) (a : Option Addr) (cap : Nat) (w : World) (hr : Row w a (ws.map (.int .u32))) (hp : PosRow ws) (hl : ws.length ≤ 9223372036854775807) :
    Calls Tryz.prog 126 #[.int .i64 t, .slice a ws.length cap] w (ShareOut t ws w) := by
  rcases Nat.lt_or_ge 64 ws.length with h | h
  · exact rshare_long t ws a cap w hl h
  · by_cases hz : shareE t ws = 0
    · exact rshare_good t ws a cap w hr hp h hz
    · exact rshare_none t ws a cap w hr hp h hz
end Go.Proofs.YtnkghdakjdhhdaaGreat
