/- PRORATE: Index; what is known. -/
import Derived.Test.YtijldpkchmpjkaaPro1
namespace Go.Proofs.Ytijldpkchmpjkaa
open Go.RowKit Go.Lib Go.Tk Go.Sort Go.Shelf

def indexE (t : Int) (ws : List Int) (i : Int) : Int := if shareE t ws ≠ 0 then shareE t ws else if i < 0 ∨ (ws.length : Int) ≤ i then 1 else 0
def indexV (t : Int) (ws : List Int) (i : Int) : Int := if indexE t ws i = 0 then (shareV t ws).getD i.toNat 0 else 0

theorem shareV_len {t : Int} {ws : List Int} (h : shareE t ws = 0) : (shareV t ws).length = ws.length := by unfold shareV; rw [if_pos h, shareL_len]
theorem shareV_bad {t : Int} {ws : List Int} (h : shareE t ws ≠ 0) : shareV t ws = [] := by unfold shareV; rw [if_neg h]

set_option maxHeartbeats 1000000 in
theorem index_any (t : Int) (ws : List Int) (i : Int) (a : Option Addr) (n cap : Nat) (w : World) (hn : ws.length = n) (hr : Row w a (ws.map (.int .u32))) (hp : PosRow ws) (hl : ws.length ≤ 9223372036854775807) :
    Calls Try.prog 18 #[.int .i64 t, .slice a n cap, .int .i64 i] w fun e w' => e = .returned (.tuple #[.int .i64 (indexV t ws i), .int .i64 (indexE t ws i)]) ∧ Below w.heap.size w w' := by
  have KEY := hid (share_row t ws a n cap w hn hr hp hl)
  clear hr hp
  have hn' : Hid (ws.length = n) := hn
  by_cases hz : shareE t ws = 0
  · have HZ := hid hz
    have hlen := shareV_len hz
    rw [hn] at hlen
    have HL := hid hlen
    rw [hn] at hl
    have hne : (shareE t ws != 0) = false := by simp [hz]
    clear hz hlen hn
    rcases Int.lt_or_le i 0 with h1 | h1
    · have F := hid (show (indexV t ws i, indexE t ws i) = (0, 1) by
        have e : indexE t ws i = 1 := by unfold indexE; rw [if_neg (by simp [HZ.out]), if_pos (.inl h1)]
        unfold indexV; rw [e]; rfl)
      have hd : decide (i < 0) = true := decide_eq_true h1
      go_enter Try.func18, Try.ntmps18
      go_wp2_with fail
      refine KEY.out.mono ?_
      rintro e w1 ⟨a', cap', rfl, hr', hb1, -⟩
      have HR := hid hr'
      clear hr'
      go_wp2
      go_ret2
      exact ⟨ret_i2 F.out.symm, hb1⟩
    · rcases Int.lt_or_le i n with h2 | h2
      · obtain ⟨j, rfl⟩ := Int.eq_ofNat_of_zero_le h1
        have hj : j < n := by omega
        have F := hid (show (indexV t ws j, indexE t ws j) = ((shareV t ws).getD j 0, 0) by
          have hnn := hn'.out
          have e : indexE t ws j = 0 := by unfold indexE; rw [if_neg (by simp [HZ.out]), if_neg (by omega)]
          unfold indexV; rw [e]; rfl)
        have hd : decide ((j : Int) < 0) = false := decide_eq_false (by omega)
        go_enter Try.func18, Try.ntmps18
        go_wp2_with fail
        refine KEY.out.mono ?_
        rintro e w1 ⟨a', cap', rfl, hr', hb1, -⟩
        rw [HL.out]
        obtain ⟨b, off, rfl, hc⟩ := hr'.int j (by rw [HL.out]; exact hj)
        have hge : decide ((j : Int) ≥ (n : Int)) = false := decide_eq_false (by omega)
        generalize (shareV t ws).getD j 0 = x at hc F
        clear hr'
        go_wp2
        go_ret2
        exact ⟨ret_i2 F.out.symm, hb1⟩
      · have F := hid (show (indexV t ws i, indexE t ws i) = (0, 1) by
          have hnn := hn'.out
          have e : indexE t ws i = 1 := by unfold indexE; rw [if_neg (by simp [HZ.out]), if_pos (.inr (by omega))]
          unfold indexV; rw [e]; rfl)
        have hd : decide (i < 0) = false := decide_eq_false (by omega)
        have hge : decide (i ≥ (n : Int)) = true := decide_eq_true (by omega)
        go_enter Try.func18, Try.ntmps18
        go_wp2_with fail
        refine KEY.out.mono ?_
        rintro e w1 ⟨a', cap', rfl, hr', hb1, -⟩
        rw [HL.out]
        have HR := hid hr'
        clear hr'
        go_wp2
        go_ret2
        exact ⟨ret_i2 F.out.symm, hb1⟩
  · have F := hid (show (indexV t ws i, indexE t ws i) = (0, shareE t ws) by
      have e : indexE t ws i = shareE t ws := by unfold indexE; rw [if_pos hz]
      unfold indexV; rw [e, if_neg hz])
    have hne : (shareE t ws != 0) = true := by simp [hz]
    clear hz
    go_enter Try.func18, Try.ntmps18
    go_wp2_with fail
    refine KEY.out.mono ?_
    rintro e w1 ⟨a', cap', rfl, hr', hb1, -⟩
    have HR := hid hr'
    clear hr'
    go_wp2
    go_ret2
    exact ⟨ret_i2 F.out.symm, hb1⟩

theorem known_sort : sortL (restsL 100 7 [1, 2, 4]) = [(4, 1), (2, 0), (1, 2)] := by
  refine (sortL_unique ?_ ?_).symm
  · decide
  · decide
theorem known_share : shareV 100 [1, 2, 4] = [14, 29, 57] ∧ shareE 100 [1, 2, 4] = 0 := by
  have e : shareE 100 [1, 2, 4] = 0 := by decide
  refine ⟨?_, e⟩
  unfold shareV
  rw [if_pos e]
  unfold shareL chosen
  have hs : ([1, 2, 4] : List Int).sum = 7 := by decide
  rw [hs, known_sort]
  decide
theorem known_none : shareE 7 [] = 60 ∧ shareV 7 [] = [] := ⟨by decide, by decide⟩

set_option maxHeartbeats 1000000 in
theorem wakes6 (w : World) : Calls Try.prog 13 #[] w fun e w' => e = .returned (.bool true) ∧ Below w.heap.size w w' := by
  have K1 := hid (fun (w : World) (n : Nat) (hn : n = w.heap.size) => share_row 100 [1, 2, 4] (some ⟨n, 0, none⟩) 3 3 (w.alloc (.cells #[.int .u32 1, .int .u32 2, .int .u32 4] 26)) rfl (row_new (vs := [.int .u32 1, .int .u32 2, .int .u32 4]) hn) (by intro x hx; simp at hx; omega) (by simp))
  have K2 := hid (fun (w : World) => share_row 7 [] none 0 0 w rfl Row.nil (by intro x hx; simp at hx) (by simp))
  go_enter Try.func13, Try.ntmps13
  go_wp2_with fail
  refine (K1.out _ _ rfl).mono ?_
  rintro e w1 ⟨a1, c1, rfl, hr1, hb1, -⟩
  rw [known_share.1, known_share.2] at *
  have HR1 := hid hr1
  clear hr1
  go_wp2_with fail
  refine (K2.out _).mono ?_
  rintro e w2 ⟨a2, c2, rfl, hr2, hb2, -⟩
  rw [known_none.1, known_none.2] at *
  clear hr2
  have HR2 : Hid _ := hid (HR1.out.kept hb2)
  clear HR1
  go_wp2_with fail
  refine (rsame6_any _ _ 3 3 _ _ [14, 29, 57] [14, 29, 57] _ rfl rfl (HR2.out.kept ((Below.refl _ _).alloc (Nat.le_refl _) _)) (row_new (vs := [.int .i64 14, .int .i64 29, .int .i64 57]) rfl) (by omega) (by omega)).mono ?_
  rintro e w3 ⟨rfl, hb3⟩
  go_wp2
  go_ret
  refine ⟨rfl, ?_⟩
  have g1 : Below w.heap.size w w1 := ((Below.refl _ _).alloc (Nat.le_refl _) _).trans (hb1.mono (by simp))
  have g2 := bt g1 hb2
  exact (g2.alloc g2.size _).trans (hb3.mono (by have := g2.size; simp; omega))
end Go.Proofs.Ytijldpkchmpjkaa
