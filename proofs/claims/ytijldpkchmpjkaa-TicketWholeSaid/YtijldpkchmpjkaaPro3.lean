/- PRORATE: the document's own Share. -/
import Derived.Test.YtijldpkchmpjkaaPro2
import Derived.BigRegion
import Derived.BigQuiet
import Derived.Deep.QuietTactic
namespace Go.Proofs.Ytijldpkchmpjkaa
open Go.RowKit Go.Lib Go.Tk Go.Sort Go.Shelf

theorem share_badR {t : Int} {ws : List Int} {w w' : World} {c : Int} (h : shareE t ws = c) (hc : c ≠ 0) (hb : Below w.heap.size w w') : ShareRow t ws w (.returned (.tuple #[.slice none 0 0, .int .i64 c])) w' := by
  have e := shareV_bad (t := t) (ws := ws) (by rw [h]; exact hc)
  refine ⟨none, 0, by rw [h, e]; rfl, by rw [e]; exact Row.nil, hb, by rw [e]; exact Nat.zero_le _⟩

set_option maxHeartbeats 400000 in
theorem rshare_long (t : Int) (ws : List Int) (a : Option Addr) (cap : Nat) (w : World) (hl : ws.length ≤ 9223372036854775807) (h : 64 < ws.length) :
    Calls Try.prog 16 #[.int .i64 t, .slice a ws.length cap] w (ShareRow t ws w) := by
  have F := hid (show shareE t ws = 2 by unfold shareE; rw [if_pos h])
  have h' : (64 : Int) < (ws.length : Int) := by omega
  go_enter Try.func16, Try.ntmps16
  go_wp2
  go_ret2
  exact share_badR F.out (by decide) (Below.refl _ _)

set_option maxHeartbeats 1000000 in
theorem rshare_none (t : Int) (ws : List Int) (a : Option Addr) (cap : Nat) (w : World) (hr : Row w a (ws.map (.int .u32))) (hp : PosRow ws) (h : ws.length ≤ 64) (hbad : shareE t ws ≠ 0) :
    Calls Try.prog 16 #[.int .i64 t, .slice a ws.length cap] w (ShareRow t ws w) := by
  have Hr := hid hr
  have HP : Aside (PosRow ws) := hp
  have HB := hid hbad
  clear hr hp hbad
  have h' : ¬ (64 : Int) < (ws.length : Int) := by omega
  go_enter Try.func16, Try.ntmps16
  go_wp2
  go_loop [6, 7] (fun s i => ∃ (k : Nat) (x : Int), k ≤ ws.length ∧ i = .int .i64 k ∧ s = .int .i64 x ∧ Hid (x = (ws.take k).sum) ∧ 0 ≤ x ∧ x ≤ k * 4294967295) (fun _ i => ws.length - (intOf i).toNat)
  case atStart => exact ⟨0, 0, Nat.zero_le _, rfl, rfl, hid (by simp), by omega, by omega⟩
  case round =>
    obtain ⟨k, s, hk, rfl, rfl, hs, hs0, hs1⟩ := hrel
    by_cases hlt : k < ws.length
    · obtain ⟨b, off, rfl, hc⟩ := Hr.out.int k hlt
      have hx := posrow_get HP.out hlt
      generalize hxe : ws.getD k 0 = x at *
      have HX := hid hxe
      clear hxe
      go_wp2
      go_round
      case rel => exact ⟨k + 1, s + x, by omega, by go_num, rfl, hid (by rw [sum_take_succ hlt, ← hs.out, HX.out]), by omega, by omega⟩
      case measure => simp [intOf]; omega
    · obtain rfl : k = ws.length := by omega
      have hsum : s = ws.sum := by rw [hs.out, List.take_length]
      have HS := hid hsum
      clear hs hsum hk hlt
      by_cases hz : s = 0
      · subst hz
        have F := hid (show shareE t ws = 60 by unfold shareE; rw [if_neg (by omega), if_pos HS.out.symm])
        go_wp2
        go_ret2
        exact share_badR F.out (by decide) (Below.refl _ _)
      · have hz' : (s == 0) = false := by simpa using hz
        have hne : ws.sum ≠ 0 := by rw [← HS.out]; exact hz
        have F := hid (show shareE t ws = 7 by
          have hb := HB.out
          unfold shareE at hb ⊢
          rw [if_neg (by omega), if_neg hne] at hb ⊢
          split at hb
          · simp at hb
          · rename_i hn; rw [if_neg hn])
        have hm : t < 0 ∨ 0 ≤ t ∧ mayI t = false := by
          rcases Int.lt_or_le t 0 with k | k
          · exact .inl k
          · refine .inr ⟨k, ?_⟩
            cases hm : mayI t with
            | false => rfl
            | true =>
              have hb := HB.out
              unfold shareE at hb
              rw [if_neg (by omega), if_neg hne, if_pos ⟨k, (mayI_of hm).2⟩] at hb
              exact absurd rfl hb
        clear hz hne
        rcases hm with hm | ⟨hm, hm2⟩
        · have hd : decide (t < 0) = true := decide_eq_true hm
          go_wp2
          go_ret2
          exact share_badR F.out (by decide) (Below.refl _ _)
        · have hd : decide (t < 0) = false := decide_eq_false (by omega)
          go_wp2_with fail
          refine (rmay_any _ _).mono ?_
          rintro e w1 ⟨rfl, rfl⟩
          go_wp2
          go_ret2
          exact share_badR F.out (by decide) (Below.refl _ _)

/-- what is left of the rests when k units are given out -/
def restK (t : Int) (ws : List Int) (k : Nat) : List Int := ws.zipIdx.map fun x => if chosen (restsL t ws.sum ws) k x.2 then -1 else rs t ws.sum x.1
theorem restK_len (t : Int) (ws : List Int) (k : Nat) : (restK t ws k).length = ws.length := by simp [restK]
theorem restK_get (t : Int) (ws : List Int) (k i : Nat) (h : i < ws.length) : (restK t ws k).getD i 0 = if chosen (restsL t ws.sum ws) k i then -1 else rs t ws.sum (ws.getD i 0) := by
  unfold restK; rw [getD_zipIdx_map _ _ _ _ h]
theorem restK_zero (t : Int) (ws : List Int) : restK t ws 0 = ws.map (rs t ws.sum) := by
  unfold restK
  have : ∀ i, chosen (restsL t ws.sum ws) 0 i = false := fun i => by simp [chosen]
  simp only [this]
  refine List.ext_getElem (by simp) fun i h1 h2 => by simp
def headAt (t : Int) (ws : List Int) (k : Nat) : Nat := ((sortL (restsL t ws.sum ws)).getD k (0, 0)).2
theorem headAt_lt {t : Int} {ws : List Int} {k : Nat} (h : k < ws.length) : headAt t ws k < ws.length := by
  have hk' : k < (sortL (restsL t ws.sum ws)).length := by rw [sort_len]; exact h
  have e : (sortL (restsL t ws.sum ws)).getD k (0, 0) = (sortL (restsL t ws.sum ws))[k] := by simp [List.getD_eq_getElem?_getD, hk']
  unfold headAt
  rw [e]; exact (mem_rests (List.getElem_mem hk')).1
theorem restK_succ {t : Int} {ws : List Int} {k : Nat} (h : k < ws.length) : restK t ws (k + 1) = (restK t ws k).set (headAt t ws k) (-1) := by
  refine List.ext_getElem (by simp [restK]) fun i h1 h2 => ?_
  have hi : i < ws.length := by simpa [restK] using h1
  have hs := chosen_succ (t := t) (all := ws.sum) (i := i) h
  have hq := headAt_lt (t := t) h
  have g1 := restK_get t ws (k + 1) i hi
  have g2 := restK_get t ws k i hi
  have e1 : ∀ (l : List Int) (j : Nat) (hj : j < l.length), l[j] = l.getD j 0 := fun l j hj => by simp [List.getD_eq_getElem?_getD, hj]
  rw [List.getElem_set, e1 _ _ h1, g1, hs]
  unfold headAt
  by_cases hq : ((sortL (restsL t ws.sum ws)).getD k (0, 0)).2 = i
  · rw [if_pos hq, hq]; simp
  · rw [if_neg hq, e1 _ _ (by rw [restK_len]; exact hi), g2]
    have : (((sortL (restsL t ws.sum ws)).getD k (0, 0)).2 == i) = false := by simpa using hq
    rw [this, Bool.or_false]

/-- who is the best of the first i that are not chosen yet -/
def Best (t : Int) (ws : List Int) (k i : Nat) (b : Int) : Prop :=
  (b = -1 ∧ ∀ j, j < i → chosen (restsL t ws.sum ws) k j = true) ∨
  ∃ q : Nat, b = q ∧ q < i ∧ chosen (restsL t ws.sum ws) k q = false ∧ ∀ j, j < i → chosen (restsL t ws.sum ws) k j = false → j ≠ q → lt2 (rs t ws.sum (ws.getD q 0), q) (rs t ws.sum (ws.getD j 0), j)

theorem best_skip {t : Int} {ws : List Int} {k i : Nat} {b : Int} (h : Best t ws k i b) (hc : chosen (restsL t ws.sum ws) k i = true) : Best t ws k (i + 1) b := by
  rcases h with ⟨rfl, h⟩ | ⟨q, rfl, hq, hcq, h⟩
  · refine .inl ⟨rfl, fun j hj => ?_⟩
    rcases Nat.lt_or_eq_of_le (Nat.lt_succ_iff.1 hj) with h1 | h1
    · exact h j h1
    · rw [h1]; exact hc
  · refine .inr ⟨q, rfl, by omega, hcq, fun j hj hcj hne => ?_⟩
    rcases Nat.lt_or_eq_of_le (Nat.lt_succ_iff.1 hj) with h1 | h1
    · exact h j h1 hcj hne
    · rw [h1, hc] at hcj; cases hcj
theorem best_first {t : Int} {ws : List Int} {k i : Nat} (h : Best t ws k i (-1)) (hc : chosen (restsL t ws.sum ws) k i = false) : Best t ws k (i + 1) i := by
  rcases h with ⟨_, h⟩ | ⟨q, hq, _⟩
  · refine .inr ⟨i, rfl, by omega, hc, fun j hj hcj hne => ?_⟩
    have := h j (by omega)
    rw [this] at hcj; cases hcj
  · omega
theorem best_more {t : Int} {ws : List Int} {k i q : Nat} (h : Best t ws k i q) (hc : chosen (restsL t ws.sum ws) k i = false) (hgt : rs t ws.sum (ws.getD q 0) < rs t ws.sum (ws.getD i 0)) : Best t ws k (i + 1) i := by
  rcases h with ⟨h, _⟩ | ⟨q', hq, hqi, hcq, h⟩
  · omega
  · have : q' = q := by omega
    subst this
    refine .inr ⟨i, rfl, by omega, hc, fun j hj hcj hne => ?_⟩
    by_cases hjq : j = q'
    · subst hjq; unfold lt2; dsimp only; omega
    · have := h j (by omega) hcj hjq
      unfold lt2 at this ⊢; dsimp only at this ⊢; omega
theorem best_less {t : Int} {ws : List Int} {k i q : Nat} (h : Best t ws k i q) (hle : rs t ws.sum (ws.getD i 0) ≤ rs t ws.sum (ws.getD q 0)) : Best t ws k (i + 1) q := by
  rcases h with ⟨h, _⟩ | ⟨q', hq, hqi, hcq, h⟩
  · omega
  · have : q' = q := by omega
    subst this
    refine .inr ⟨q', rfl, by omega, hcq, fun j hj hcj hne => ?_⟩
    by_cases hji : j = i
    · subst hji; unfold lt2; dsimp only; omega
    · exact h j (by omega) hcj hne
/-- the best of all stands next in the sorted row -/
theorem best_head {t : Int} {ws : List Int} {k : Nat} {b : Int} (hk : k < ws.length) (h : Best t ws k ws.length b) : b = headAt t ws k := by
  have hq := headAt_lt (t := t) hk
  have hn := not_chosen_at (t := t) (all := ws.sum) hk
  have hk' : k < (sortL (restsL t ws.sum ws)).length := by rw [sort_len]; exact hk
  have e : (sortL (restsL t ws.sum ws)).getD k (0, 0) = (sortL (restsL t ws.sum ws))[k] := by simp [List.getD_eq_getElem?_getD, hk']
  rcases h with ⟨_, h⟩ | ⟨q, rfl, hqi, hcq, h⟩
  · have := h _ hq
    unfold headAt at this; rw [hn] at this; cases this
  · by_cases hne : headAt t ws k = q
    · rw [hne]
    · exfalso
      have h1 := h _ hq (by unfold headAt; exact hn) hne
      -- q stands behind k in the sorted row, or was chosen
      have hm := rests_mem (t := t) (all := ws.sum) hqi
      obtain ⟨m1, m2⟩ := mem_rests (List.getElem_mem hk')
      have hS := rests_sorted t ws.sum ws
      rw [← List.take_append_drop k (sortL (restsL t ws.sum ws))] at hm hS
      rcases List.mem_append.1 hm with hm | hm
      · have := chosen_iff.2 hm
        rw [this] at hcq; cases hcq
      · rw [List.drop_eq_getElem_cons hk'] at hm hS
        have hd := List.pairwise_cons.1 (List.pairwise_append.1 hS).2.1
        have hx : (sortL (restsL t ws.sum ws))[k] = (rs t ws.sum (ws.getD (headAt t ws k) 0), headAt t ws k) := by
          unfold headAt; rw [e]; exact Prod.ext m2 rfl
        rcases List.mem_cons.1 hm with hm | hm
        · rw [hx] at hm
          exact hne (congrArg Prod.snd hm).symm
        · have := hd.1 _ hm
          rw [hx] at this
          exact lt2_asymm h1 this
end Go.Proofs.Ytijldpkchmpjkaa
