/- SW8, Share1. -/
import Derived.Test.YtdnaegleifhmgaaGreatM55ee1bf
import Derived.Test.YtdnaegleifhmgaaGreatRows
import Derived.Test.YtdnaegleifhmgaaGreatM8a8b41c
import Derived.Test.YtdnaegleifhmgaaGreatMb6a2934
set_option maxRecDepth 100000
set_option linter.unusedVariables false
set_option linter.unusedSimpArgs false
set_option linter.unusedSectionVars false
section
namespace Go.Proofs.YtdnaegleifhmgaaGreat
open Go.RowKit Go.Lib Go.Tk Go.Sort Go.Shelf
attribute [-go_sem] loadCellsFrom
set_option maxHeartbeats 4000000 in
set_option maxRecDepth 1000000 in
theorem stable_any (blk off cap : Nat) (d0 : RA) (w0 : World) (R : RowK encR 2 w0 blk off d0) (hsz : d0.size < 1000000)
    (w : World) (S : SWK encR 2 w0 blk off d0 w) (hA : Asc d0 0 d0.size) :
    Calls Tryz.prog 163 #[.slice (some ⟨blk, off, none⟩) d0.size cap, .int .i64 d0.size, .func (.func 157) #[] #[]] w fun e w' =>
      e = .returned (.tuple #[]) ∧ ∃ d', SWK encR 2 w0 blk off d' w' ∧ PermIn 0 d0.size d0 d' ∧ Srt d' 0 d0.size := by
  have mixed := Tryz.mixed
  have HA : Aside (Asc d0 0 d0.size) := hA
  have S0 : Aside (SWK encR 2 w0 blk off d0 w) := S
  clear S hA
  obtain ⟨n, hn⟩ : ∃ n, n = d0.size := ⟨_, rfl⟩
  have HN : Hid (n = d0.size) := hn
  rw [← hn] at hsz ⊢
  clear hn
  go_enter Tryz.func163, Tryz.ntmps163
  go_wp2
  go_loopg [7, 8] n (fun kx s7 s8 wr => ∃ (a b q : Nat) (dk : RA), s7 = .int .i64 a ∧ s8 = .int .i64 b ∧ b ≤ a + 20 ∧ a + 20 ≤ b ∧ a ≤ n ∧ n - a ≤ kx ∧ Aside (a = q * 20) ∧ Aside (SWK encR 2 w0 blk off dk wr) ∧ Aside (PermIn 0 n d0 dk) ∧ Aside (Bl dk 20 a n) ∧ Aside (Asc dk a n))
  case atStart => exact ⟨0, 20, 0, d0, rfl, rfl, by omega, by omega, by omega, by omega, rfl, S0, permIn_refl _ _ _, (by rw [HN.out]; exact HA.out.bl), (by rw [HN.out]; exact HA.out)⟩
  case round =>
    clear S0
    obtain ⟨a, b, q, dk, rfl, rfl, hb1, hb2, han, hkx, HQ, S1, P1, B1, A1⟩ := hrel
    have hsk : Hid (dk.size = d0.size) := P1.out.1
    by_cases hlt : b ≤ n
    · have hltz : (b : Int) ≤ (n : Int) := by omega
      have hbn : Aside (b ≤ d0.size) := by rw [← HN.out]; exact hlt
      go_wp2_with fail
      have key := insertion_any blk off cap a b d0 dk w0 wr R hsk.out S1.out (by omega) hbn.out (by rw [← HN.out]; omega)
      rw [← HN.out] at key
      refine key.mono ?_
      rintro e w1 ⟨rfl, S2⟩
      have S3 : Aside (SWK encR 2 w0 blk off (Go.Sort.insertionSort ltR dk a b) w1) := S2
      obtain ⟨p, s⟩ := insertion_sorted (d := dk) (a := a) (b := b) (by omega) (by rw [hsk.out]; exact hbn.out) (fun i j h1 h2 h3 => A1.out i j h1 h2 (by omega))
      have P2 : Aside (PermIn a b dk (Go.Sort.insertionSort ltR dk a b)) := p
      have SR : Aside (Srt (Go.Sort.insertionSort ltR dk a b) a b) := s
      clear p s key S2 S1
      go_wp2
      go_roundg (n - b)
      case measure => omega
      case rel =>
        refine ⟨b, b + 20, q + 1, _, by first | rfl | go_num, by first | rfl | go_num, by omega, by omega, by omega, by omega, ?_, S3, ?_, ?_, ?_⟩
        · show b = (q + 1) * 20
          have := HQ.out; omega
        · exact permIn_trans _ _ _ _ _ P1.out (permIn_mono _ _ a b 0 n (by omega) (by omega) (by rw [hsk.out, ← HN.out]; exact Nat.le_refl _) P2.out)
        · have h1 := B1.out
          rw [HQ.out] at h1
          have p2 := P2.out
          have s2 := SR.out
          have hbq : b = q * 20 + 20 := by have := HQ.out; omega
          have haq := HQ.out
          subst haq
          have := h1.step (b := b) (d' := Go.Sort.insertionSort ltR dk (q * 20) b) (by rw [hsk.out, ← HN.out]; exact Nat.le_refl _) (by omega) p2 s2
          rw [show b = (q + 1) * 20 by omega]
          rw [show b = (q + 1) * 20 by omega] at this
          exact this
        · exact A1.out.keep P2.out (by omega) (by omega)
    · have hltz : ¬ (b : Int) ≤ (n : Int) := by omega
      go_wp2_with fail
      have key := insertion_any blk off cap a n d0 dk w0 wr R hsk.out S1.out (by omega) (by rw [← HN.out]; omega) (by rw [← HN.out]; omega)
      rw [← HN.out] at key
      refine key.mono ?_
      rintro e w1 ⟨rfl, S2⟩
      obtain ⟨p, s⟩ := insertion_sorted (d := dk) (a := a) (b := n) (by omega) (by rw [hsk.out, HN.out]; exact Nat.le_refl _) (fun i j h1 h2 h3 => A1.out i j h1 h2 (by omega))
      obtain ⟨d1, hd1⟩ : ∃ d1, d1 = Go.Sort.insertionSort ltR dk a n := ⟨_, rfl⟩
      rw [← hd1] at S2 p s
      clear hd1
      have S3 : Aside (SWK encR 2 w0 blk off d1 w1) := S2
      have P2 : Aside (PermIn 0 n d0 d1) := permIn_trans _ _ _ _ _ P1.out (permIn_mono _ _ a n 0 n (by omega) (by omega) (by rw [hsk.out, ← HN.out]; exact Nat.le_refl _) p)
      have K2 : Aside (Blk d1 20 n) := by
        have h1 := B1.out
        have haq := HQ.out
        subst haq
        have := h1.step (b := n) (d' := d1) (by rw [hsk.out, ← HN.out]; exact Nat.le_refl _) (by omega) p s
        exact this.blk (by omega)
      clear p s S2 key S1 P1 B1 A1 HQ hsk
      go_wp2
      go_loopg [6] n (fun kx s6 wr => ∃ (s : Nat) (dk : RA), s6 = .int .i64 s ∧ 20 ≤ s ∧ s ≤ 2 * n + 20 ∧ n - s ≤ kx ∧ Aside (SWK encR 2 w0 blk off dk wr) ∧ Aside (PermIn 0 n d0 dk) ∧ Aside (Blk dk s n))
      case atStart => exact ⟨20, d1, rfl, by omega, by omega, by omega, S3, P2, K2⟩
      case round =>
        clear S3 P2 K2
        obtain ⟨s, ds, rfl, hs1, hs2, hkx2, S4, P4, K4⟩ := hrel
        by_cases hsn : s < n
        · have hsnz : (s : Int) < (n : Int) := by omega
          go_wp2
          go_loopg [7, 8] n (fun kx s7 s8 wr => ∃ (a b q : Nat) (dk : RA), s7 = .int .i64 a ∧ s8 = .int .i64 b ∧ b ≤ a + 2 * s ∧ a + 2 * s ≤ b ∧ a ≤ n ∧ n - a ≤ kx ∧ Aside (a = q * (2 * s)) ∧ Aside (SWK encR 2 w0 blk off dk wr) ∧ Aside (PermIn 0 n d0 dk) ∧ Aside (Bl dk (2 * s) a n) ∧ Aside (Raw dk s a n))
          case atStart => exact ⟨0, 2 * s, 0, ds, rfl, by go_num, by omega, by omega, by omega, by omega, (show 0 = 0 * (2 * s) from by omega), S4, P4, K4.out.bl, K4.out.raw⟩
          case round =>
            clear S4 P4 K4
            obtain ⟨a, b, q, dk, rfl, rfl, hb1, hb2, han, hkx3, HQ, S5, P5, B5, R5⟩ := hrel
            have hsk : Hid (dk.size = d0.size) := P5.out.1
            have PT := R5.out
            rw [HQ.out] at PT
            have PT2 : Aside _ := PT.parts
            clear PT
            by_cases hbn : b ≤ n
            · have hbnz : (b : Int) ≤ (n : Int) := by omega
              go_wp2_with fail
              have key := symMerge_any blk off cap d0 w0 R (by rw [← HN.out]; omega) (b - a) a (a + s) b dk wr (Nat.le_refl _) hsk.out S5.out (by omega) (by omega) (by rw [← HN.out]; omega)
                (by have := PT2.out.1 (a + s) (by have := HQ.out; omega) (by omega); rw [← HQ.out] at this; exact this)
                (by have := PT2.out.2.1 b (by have := HQ.out; omega) (by omega); rw [← HQ.out] at this; exact this)
                (by have := PT2.out.2.2 b (by omega); rw [← HQ.out] at this; exact this)
              rw [← HN.out] at key
              rw [show ((a : Int) + (s : Int)) = ((a + s : Nat) : Int) from by omega]
              refine key.mono ?_
              rintro e w2 ⟨rfl, d2, S6, p, sr⟩
              have S7 : Aside (SWK encR 2 w0 blk off d2 w2) := S6
              have P6 : Aside (PermIn 0 n d0 d2) := permIn_trans _ _ _ _ _ P5.out (permIn_mono _ _ a b 0 n (by omega) (by omega) (by rw [hsk.out, ← HN.out]; exact Nat.le_refl _) p)
              have R6 : Aside (Raw d2 s b n) := R5.out.keep p (by omega) (Nat.le_refl _)
              have B6 : Aside (Bl d2 (2 * s) b n) := by
                have h1 := B5.out
                have haq := HQ.out
                have e2 : (q + 1) * (2 * s) = q * (2 * s) + 2 * s := by rw [Nat.add_mul, Nat.one_mul]
                subst haq
                have := h1.step (b := b) (d' := d2) (by rw [hsk.out, ← HN.out]; exact Nat.le_refl _) (by omega) p sr
                rw [show (q + 1) * (2 * s) = b by omega] at this
                exact this
              have HQ2 : Aside (b = (q + 1) * (2 * s)) := by
                show b = _
                have := HQ.out
                rw [Nat.add_mul, Nat.one_mul, ← this]; omega
              clear p sr S6 key S5 P5 B5 R5 PT2 HQ
              go_wp2
              go_roundg (n - b)
              case measure => omega
              case rel => exact ⟨b, b + 2 * s, q + 1, d2, by first | rfl | go_num, by first | rfl | go_num, by omega, by omega, by omega, by omega, HQ2, S7, P6, B6, R6⟩
            · have hbnz : ¬ (b : Int) ≤ (n : Int) := by omega
              by_cases hmn : a + s < n
              · have hmnz : (a : Int) + (s : Int) < (n : Int) := by omega
                go_wp2_with fail
                have key := symMerge_any blk off cap d0 w0 R (by rw [← HN.out]; omega) (n - a) a (a + s) n dk wr (Nat.le_refl _) hsk.out S5.out (by omega) (by omega) (by rw [← HN.out]; omega)
                  (by have := PT2.out.1 (a + s) (by have := HQ.out; omega) (by omega); rw [← HQ.out] at this; exact this)
                  (by have := PT2.out.2.1 n (by have := HQ.out; omega) (by omega); rw [← HQ.out] at this; exact this)
                  (by have := PT2.out.2.2 n (by omega); rw [← HQ.out] at this; exact this)
                rw [← HN.out] at key
                rw [show ((a : Int) + (s : Int)) = ((a + s : Nat) : Int) from by omega]
                refine key.mono ?_
                rintro e w2 ⟨rfl, d2, S6, p, sr⟩
                have S7 : Aside (SWK encR 2 w0 blk off d2 w2) := S6
                have P6 : Aside (PermIn 0 n d0 d2) := permIn_trans _ _ _ _ _ P5.out (permIn_mono _ _ a n 0 n (by omega) (by omega) (by rw [hsk.out, ← HN.out]; exact Nat.le_refl _) p)
                have K6 : Aside (Blk d2 (s * 2) n) := by
                  have h1 := B5.out
                  have haq := HQ.out
                  have e2 : (q + 1) * (2 * s) = q * (2 * s) + 2 * s := by rw [Nat.add_mul, Nat.one_mul]
                  subst haq
                  have := h1.step (b := n) (d' := d2) (by rw [hsk.out, ← HN.out]; exact Nat.le_refl _) (by omega) p sr
                  rw [Nat.mul_comm s 2]
                  exact this.blk (by omega)
                clear p sr S6 key S5 P5 B5 R5 PT2 HQ
                go_wp2
                go_roundg (n - s * 2)
                case measure => omega
                case rel => exact ⟨s * 2, d2, by first | rfl | go_num, by omega, by omega, by omega, S7, P6, K6⟩
              · have hmnz : ¬ (a : Int) + (s : Int) < (n : Int) := by omega
                have K6 : Aside (Blk dk (s * 2) n) := by
                  have h1 := B5.out
                  have haq := HQ.out
                  have e2 : (q + 1) * (2 * s) = q * (2 * s) + 2 * s := by rw [Nat.add_mul, Nat.one_mul]
                  have s1 := PT2.out.1 n (by omega) (by omega)
                  subst haq
                  have := h1.step (b := n) (d' := dk) (by rw [hsk.out, ← HN.out]; exact Nat.le_refl _) (by omega) (permIn_refl _ _ _) s1
                  rw [Nat.mul_comm s 2]
                  exact this.blk (by omega)
                clear B5 R5 PT2 HQ
                go_wp2
                go_roundg (n - s * 2)
                case measure => omega
                case rel => exact ⟨s * 2, dk, by first | rfl | go_num, by omega, by omega, by omega, S5, P5, K6⟩
        · have hsnz : ¬ (s : Int) < (n : Int) := by omega
          go_wp2
          go_end0
          exact ⟨rfl, ds, S4.out, P4.out, K4.out.all (by omega)⟩
end Go.Proofs.YtdnaegleifhmgaaGreat
end
section
namespace Go.Proofs.YtdnaegleifhmgaaGreat
open Go.RowKit Go.Lib Go.Tk Go.Sort Go.Shelf
def PosRow (ws : List Int) : Prop := ∀ x ∈ ws, 0 ≤ x ∧ x ≤ 4294967295
def shareE (t : Int) (ws : List Int) : Int := if 64 < ws.length then 2 else if ws.sum = 0 then 60 else if 0 ≤ t ∧ t ≤ 1125899906842624 then 0 else 7
def shareV (t : Int) (ws : List Int) : List Int := if shareE t ws = 0 then shareL t ws else []
def ShareOut (t : Int) (ws : List Int) (w : World) (e : Ending) (w' : World) : Prop :=
  ∃ v, e = .returned (.tuple #[v, .int .i64 (shareE t ws)]) ∧ w'.ownsRow w.heap.size 2 1 v (shareV t ws).length ((shareV t ws).map (.int .i64)) ∧ Below w.heap.size w w' ∧ (shareE t ws ≠ 0 → v = .slice none 0 0)
theorem share_bad {t : Int} {ws : List Int} {w w' : World} {c : Int} (h : shareE t ws = c) (hc : c ≠ 0) (hb : Below w.heap.size w w') : ShareOut t ws w (.returned (.tuple #[.slice none 0 0, .int .i64 c])) w' := by
  refine ⟨_, by rw [h], ?_, hb, fun _ => rfl⟩
  have : shareV t ws = [] := by unfold shareV; rw [if_neg (by rw [h]; exact hc)]
  rw [this]; exact World.ownsRow_nil _ _ _ _
theorem sum_take_succ {l : List Int} {k : Nat} (h : k < l.length) : (l.take (k + 1)).sum = (l.take k).sum + l.getD k 0 := by
  rw [List.take_succ_eq_append_getElem h, List.sum_append_int]; simp [List.getD_eq_getElem?_getD, h]
theorem posrow_get {ws : List Int} (h : PosRow ws) {k : Nat} (hk : k < ws.length) : 0 ≤ ws.getD k 0 ∧ ws.getD k 0 ≤ 4294967295 := by
  have : ws.getD k 0 = ws[k] := by simp [List.getD_eq_getElem?_getD, hk]
  rw [this]; exact h _ (List.getElem_mem hk)
theorem take_sum_bd {ws : List Int} (h : PosRow ws) (k : Nat) : 0 ≤ (ws.take k).sum ∧ (ws.take k).sum ≤ (ws.take k).length * 4294967295 := by
  have h' : ∀ x ∈ ws.take k, 0 ≤ x ∧ x ≤ 4294967295 := fun x hx => h x (List.mem_of_mem_take hx)
  refine ⟨sum_nonneg _ (fun x hx => (h' x hx).1), ?_⟩
  have := sum_le (fun x : Int => x) (fun _ => 4294967295) (ws.take k) (fun x hx => (h' x hx).2)
  rw [sum_const, List.map_id'] at this; exact this
set_option maxHeartbeats 400000 in
theorem share_long (t : Int) (ws : List Int) (a : Option Addr) (cap : Nat) (w : World) (hl : ws.length ≤ 9223372036854775807) (h : 64 < ws.length) :
    Calls Tryz.prog 138 #[.int .i64 t, .slice a ws.length cap] w (ShareOut t ws w) := by
  have F := hid (show shareE t ws = 2 by unfold shareE; rw [if_pos h])
  have h' : (64 : Int) < (ws.length : Int) := by omega
  go_enter Tryz.func138, Tryz.ntmps138
  go_wp2
  go_ret2
  exact share_bad F.out (by decide) (Below.refl _ _)
set_option maxHeartbeats 1000000 in
theorem share_none (t : Int) (ws : List Int) (a : Option Addr) (cap : Nat) (w : World) (hr : Row w a (ws.map (.int .u32))) (hp : PosRow ws) (h : ws.length ≤ 64) (hbad : shareE t ws ≠ 0) :
    Calls Tryz.prog 138 #[.int .i64 t, .slice a ws.length cap] w (ShareOut t ws w) := by
  have Hr := hid hr
  have HP : Aside (PosRow ws) := hp
  have HB := hid hbad
  clear hr hp hbad
  have h' : ¬ (64 : Int) < (ws.length : Int) := by omega
  go_enter Tryz.func138, Tryz.ntmps138
  go_wp2
  go_loop [6, 24] (fun s i => ∃ (k : Nat) (x : Int), k ≤ ws.length ∧ i = .int .i64 k ∧ s = .int .i64 x ∧ Hid (x = (ws.take k).sum) ∧ 0 ≤ x ∧ x ≤ k * 4294967295) (fun _ i => ws.length - (RowKit.intOf i).toNat)
  case atStart => exact ⟨0, 0, Nat.zero_le _, rfl, rfl, hid (by simp), by omega, by omega⟩
  case round =>
    obtain ⟨k, s, hk, rfl, rfl, hs, hs0, hs1⟩ := hrel
    by_cases hlt : k < ws.length
    · obtain ⟨b, off, rfl, hc⟩ := Hr.out.int k hlt
      have hx := posrow_get HP.out hlt
      generalize hxe : ws.getD k 0 = x at *
      have HX := hid hxe
      clear hxe
      go_wp2
      go_round
      case rel => exact ⟨k + 1, s + x, by omega, by go_num, rfl, hid (by rw [sum_take_succ hlt, ← hs.out, HX.out]), by omega, by omega⟩
      case measure => simp [RowKit.intOf]; omega
    · obtain rfl : k = ws.length := by omega
      have hsum : s = ws.sum := by rw [hs.out, List.take_length]
      have HS := hid hsum
      clear hs hsum hk hlt
      by_cases hz : s = 0
      · subst hz
        have F := hid (show shareE t ws = 60 by unfold shareE; rw [if_neg (by omega), if_pos HS.out.symm])
        go_wp2
        go_ret2
        exact share_bad F.out (by decide) (Below.refl _ _)
      · have hz' : (s == 0) = false := by simpa using hz
        have hne : ws.sum ≠ 0 := by rw [← HS.out]; exact hz
        have F := hid (show shareE t ws = 7 by
          have hb := HB.out
          unfold shareE at hb ⊢
          rw [if_neg (by omega), if_neg hne] at hb ⊢
          split at hb
          · simp at hb
          · rename_i hn; rw [if_neg hn])
        have hm : t < 0 ∨ 0 ≤ t ∧ mayI t = false := by
          rcases Int.lt_or_le t 0 with k | k
          · exact .inl k
          · refine .inr ⟨k, ?_⟩
            cases hm : mayI t with
            | false => rfl
            | true =>
              have hb := HB.out
              unfold shareE at hb
              rw [if_neg (by omega), if_neg hne, if_pos ⟨k, (mayI_of hm).2⟩] at hb
              exact absurd rfl hb
        clear hz hne
        rcases hm with hm | ⟨hm, hm2⟩
        · have hd : decide (t < 0) = true := decide_eq_true hm
          go_wp2
          go_ret2
          exact share_bad F.out (by decide) (Below.refl _ _)
        · have hd : decide (t < 0) = false := decide_eq_false (by omega)
          have he : (errI t != 0) = true := by simp [errI, hm2]
          go_wp2_with fail
          refine (check_any _ _).mono ?_
          rintro e w1 ⟨rfl, hb1⟩
          go_wp2
          go_ret2
          exact share_bad F.out (by decide) hb1
end Go.Proofs.YtdnaegleifhmgaaGreat
end
