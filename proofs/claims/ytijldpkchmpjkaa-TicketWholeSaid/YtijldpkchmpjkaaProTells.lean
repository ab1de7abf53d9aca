/- ProrateTells: the shares, and each single one, are what the document says. -/
import Derived.Test.YtijldpkchmpjkaaPro4
namespace Go.Proofs.Ytijldpkchmpjkaa
open Go.RowKit Go.Lib Go.Tk Go.Sort Go.Shelf

theorem u32row : (Try.prog.info? 26).map (fun i => (i.zero, i.size, i.bytes)) = some (some (.int .u32 0), 1, 4) := by kernel_rfl
theorem wf32 {a : Int} (h : (Lit.int .u32 a).wf = true) : 0 ≤ a ∧ a ≤ 4294967295 := by
  simpa [Lit.wf, IntKind.min, IntKind.max, IntKind.signed, IntKind.bits] using h

theorem idx_bad {t : Int} {ws : List Int} {i : Int} (h : shareE t ws ≠ 0) : indexE t ws i = shareE t ws ∧ indexV t ws i = 0 := by
  have e : indexE t ws i = shareE t ws := by unfold indexE; rw [if_pos h]
  refine ⟨e, ?_⟩; unfold indexV; rw [e, if_neg h]
theorem idx_out {t : Int} {ws : List Int} {i : Int} (h : shareE t ws = 0) (hi : i < 0 ∨ (ws.length : Int) ≤ i) : indexE t ws i = 1 ∧ indexV t ws i = 0 := by
  have e : indexE t ws i = 1 := by unfold indexE; rw [if_neg (by simp [h]), if_pos hi]
  refine ⟨e, ?_⟩; unfold indexV; rw [e]; rfl
theorem idx_in {t : Int} {ws : List Int} {j : Nat} (h : shareE t ws = 0) (hj : j < ws.length) : indexE t ws j = 0 ∧ indexV t ws j = (shareV t ws).getD j 0 := by
  have e : indexE t ws j = 0 := by unfold indexE; rw [if_neg (by simp [h]), if_neg (by omega)]
  refine ⟨e, ?_⟩; unfold indexV; rw [e]; rfl

set_option maxHeartbeats 2000000 in
theorem ptells_walk (t : Int) (a : Option Addr) (len cap : Nat) (zs : List Int) (i : Int) (w : World) (_wt : (Lit.int .i64 t).wf = true) (hrow : IsRow .u32 w a len cap zs) (_wi : (Lit.int .i64 i).wf = true) :
    Calls Try.prog 6 #[.int .i64 t, .slice a len cap, .int .i64 i] w fun e w' => e = .returned (.bool true) ∧ Below w.heap.size w w' := by
  obtain ⟨xs, rfl, hr, hm, hc, hwf⟩ := hrow.row
  unfold maxLen at hm
  have Hr := hid hr
  have Hc := hid hc
  have HP : Aside (PosRow xs) := fun x hx => wf32 (hwf x hx)
  clear hr hc hrow hwf
  by_cases hl : 300 < xs.length
  · have hl' : (300 : Int) < (xs.length : Int) := by omega
    go_enter Try.func6, Try.ntmps6
    go_wp2_with fail
    refine (wakes6 _).mono ?_
    rintro e w4 ⟨rfl, k4⟩
    go_wp2
    go_ret
    exact ⟨rfl, k4⟩
  have hl' : ¬ (300 : Int) < (xs.length : Int) := by omega
  go_enter Try.func6, Try.ntmps6
  go_wp2_with (at_builtin; refine wpList_append_row rfl _ _ 25 rfl w.heap.size 26 (.int .u32 0) 1 4 Try.underlying25 u32row rfl (by decide) (.slice none 0 0) 0 [] rfl ⟨rfl, .inl ⟨rfl, rfl⟩⟩ a xs.length cap (xs.map (.int .u32)) rfl Hc.out Hr.out (by simp) (by simp [Value.oneCell']) (by unfold maxLen; omega) (by omega) (Nat.le_refl _) ?_; intro v' w1 hown hgrow)
  obtain ⟨a', cap', rfl, hr', -⟩ := row_of_owns hown
  simp only [List.nil_append] at hr'
  have hb1 : Aside (Below w.heap.size w w1) := Below.grown (Below.refl _ _) hgrow (Nat.le_refl _) (fun k h => by simp [Value.ownBlock] at h)
  have Hr' := hid hr'
  clear hr' hown hgrow
  simp only [Nat.zero_add]
  go_wp2_with fail
  refine (share_row t xs _ _ _ _ rfl Hr'.out HP.out hm).mono ?_
  rintro e w2 ⟨a2, c2, rfl, r2, hb2, m2⟩
  have R2 := hid r2
  have B2 : Aside (Below w.heap.size w w2) := bt hb1.out hb2
  have B12 : Aside (Below w1.heap.size w1 w2) := hb2
  clear r2 hb2
  go_wp2_with fail
  refine (rshare_row t xs _ _ _ _ rfl (Hr.out.kept B2.out) HP.out hm).mono ?_
  rintro e w3 ⟨a3, c3, rfl, r3, hb3, m3⟩
  have R3 := hid r3
  have R2' := hid (R2.out.kept hb3)
  have B3 : Aside (Below w.heap.size w w3) := bt B2.out hb3
  have B13 : Aside (Below w1.heap.size w1 w3) := bt B12.out hb3
  clear r3 hb3 R2 B2 B12
  unfold maxLen at m2
  clear m3
  go_wp2_with fail
  refine (rsame6_any _ _ _ _ _ _ (shareV t xs) (shareV t xs) _ rfl rfl R2'.out R3.out (by omega) (by omega)).mono ?_
  rintro e w4 ⟨rfl, hb4⟩
  have B4 : Aside (Below w.heap.size w w4) := bt B3.out hb4
  have B14 : Aside (Below w1.heap.size w1 w4) := bt B13.out hb4
  have R4 := hid (R3.out.kept hb4)
  clear hb4 B3 B13 R2' R3
  go_wp2
  go_loopw [12] (fun s wr => ∃ k : Nat, k ≤ xs.length ∧ s = .int .i64 k ∧ Aside (Below w4.heap.size w4 wr)) (fun s _ => xs.length - (intOf s).toNat)
  case atStart => exact ⟨0, Nat.zero_le _, rfl, Below.refl _ _⟩
  case round =>
    obtain ⟨k, hk, rfl, hbel⟩ := hrel
    by_cases hlt : k < xs.length
    · obtain ⟨b, off, rfl, hc⟩ := (Hr.out.kept (bt B4.out hbel.out)).int k hlt
      obtain ⟨b', off', rfl, hc'⟩ := (Hr'.out.kept (bt B14.out hbel.out)).int k hlt
      generalize hx : xs.getD k 0 = x at *
      have HX := hid hx
      clear hx
      have hkk : (k : Int) < (xs.length : Int) := by omega
      go_wp2
      go_region
      go_wp2
      go_roundw
      case rel => exact ⟨k + 1, by omega, by go_num, hbel.out.drew⟩
      case measure => simp [intOf]; omega
    · obtain rfl : k = xs.length := by omega
      go_wp2_with fail
      refine (index_any t xs i _ _ _ _ rfl (Hr'.out.kept (bt B14.out hbel.out)) HP.out hm).mono ?_
      rintro e w5 ⟨rfl, hb5⟩
      have B5 : Aside (Below w.heap.size w w5) := bt (bt B4.out hbel.out) hb5
      have R5 := hid (R4.out.kept (bt hbel.out hb5))
      clear hb5 R4 B4 B14 hbel
      by_cases hz : shareE t xs = 0
      · have hlen := shareV_len hz
        by_cases hi : i < 0 ∨ (xs.length : Int) ≤ i
        · obtain ⟨e1, e2⟩ := idx_out hz hi
          rw [e1, e2, hlen, hz]
          clear hz hlen e1 e2
          rcases hi with hi | hi
          · have d1 : decide (i < 0) = true := decide_eq_true hi
            go_wp2_with fail
            refine (wakes6 _).mono ?_
            rintro e w6 ⟨rfl, hb6⟩
            go_wp2
            go_ret
            exact ⟨rfl, bt B5.out hb6⟩
          · have d1 : decide (i < 0) = false := decide_eq_false (by omega)
            have d2 : decide (i ≥ (xs.length : Int)) = true := decide_eq_true (by omega)
            go_wp2_with fail
            refine (wakes6 _).mono ?_
            rintro e w6 ⟨rfl, hb6⟩
            go_wp2
            go_ret
            exact ⟨rfl, bt B5.out hb6⟩
        · obtain ⟨j, rfl⟩ := Int.eq_ofNat_of_zero_le (show 0 ≤ i by omega)
          have hj : j < xs.length := by omega
          obtain ⟨e1, e2⟩ := idx_in hz hj
          obtain ⟨b, off, rfl, hc⟩ := R5.out.int j (by rw [hlen]; exact hj)
          rw [e1, e2, hlen, hz]
          generalize (shareV t xs).getD j 0 = x at hc
          have d1 : decide ((j : Int) < 0) = false := decide_eq_false (by omega)
          have d2 : decide ((j : Int) ≥ (xs.length : Int)) = false := decide_eq_false (by omega)
          clear hz hlen e1 e2 hi
          go_wp2_with fail
          refine (wakes6 _).mono ?_
          rintro e w6 ⟨rfl, hb6⟩
          go_wp2
          go_ret
          exact ⟨rfl, bt B5.out hb6⟩
      · obtain ⟨e1, e2⟩ := idx_bad (i := i) hz
        rw [e1, e2]
        have hz1 : (shareE t xs != 0) = true := by simp [hz]
        have hz2 : (shareE t xs == shareE t xs) = true := by simp
        clear hz e1 e2
        generalize shareE t xs = c at *
        go_wp2_with fail
        refine (wakes6 _).mono ?_
        rintro e w6 ⟨rfl, hb6⟩
        go_wp2
        go_ret
        exact ⟨rfl, bt B5.out hb6⟩
end Go.Proofs.Ytijldpkchmpjkaa
