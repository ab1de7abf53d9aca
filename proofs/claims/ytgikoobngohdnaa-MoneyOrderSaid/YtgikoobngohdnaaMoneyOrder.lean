/- MoneyOrder: the sum hangs on no order. -/
import Derived.Test.YtgikoobngohdnaaMoney7
import Derived.BigRegion
import Derived.Deep.DeepCutAuto
namespace Go.Proofs.Ytgikoobngohdnaa
open Go.RowKit Go.Lib Go.Tk

theorem sumFrom_nn : ∀ (xs : List Int) (s : Int), mayI s = true → 0 ≤ s → (∀ x ∈ xs, 0 ≤ x) → sumFrom s xs = if mayI (s + xs.sum) then (s + xs.sum, 0) else (0, 7)
  | [], s, hs, _, _ => by simp [sumFrom, hs]
  | x :: r, s, hs, h0, hx => by
    have hx0 := hx x (by simp)
    have hr : ∀ y ∈ r, 0 ≤ y := fun y hy => hx y (by simp [hy])
    have hrs : 0 ≤ r.sum := by
      clear hx
      induction r with
      | nil => simp
      | cons y t ih => have := hr y (by simp); have := ih (fun z hz => hr z (by simp [hz])); simp; omega
    rw [sumFrom]
    have e : s + (x :: r).sum = s + x + r.sum := by simp; omega
    rw [e]
    obtain ⟨s1, s2⟩ := mayI_of hs
    rcases addI_cases s x with ⟨h, _, m2, m3, h1⟩ | ⟨h, h1, hno⟩
    · rw [if_pos h, h1, sumFrom_nn r (s + x) m3 (by omega) hr]
    · rw [if_neg (by rw [h]; decide)]
      have : mayI (s + x + r.sum) = false := by
        rw [← Bool.not_eq_true]; intro hm
        obtain ⟨q1, q2⟩ := mayI_of hm
        have a1 : mayI x = true := by simp [mayI]; omega
        have a2 : mayI (s + x) = true := by simp [mayI]; omega
        rw [hs, a1, a2] at hno; cases hno
      rw [this]; rfl

theorem sum_set : ∀ (xs : List Int) (i : Nat) (v : Int), i < xs.length → (xs.set i v).sum = xs.sum - xs.getD i 0 + v
  | [], _, _, h => by simp at h
  | x :: r, 0, v, _ => by simp; omega
  | x :: r, i + 1, v, h => by
    have := sum_set r i v (by simpa using h)
    simp at this ⊢; omega

/-- two places change places -/
def swapL (xs : List Int) (i j : Nat) : List Int := (xs.set i (xs.getD j 0)).set j (xs.getD i 0)

theorem swap_sum (xs : List Int) (i j : Nat) (hi : i < xs.length) (hj : j < xs.length) : (swapL xs i j).sum = xs.sum := by
  unfold swapL
  rw [sum_set _ _ _ (by simpa using hj), sum_set _ _ _ hi]
  have : (xs.set i (xs.getD j 0)).getD j 0 = xs.getD j 0 := by
    simp only [List.getD_eq_getElem?_getD, List.getElem?_set, hi, if_true]
    split
    · simp
    · rfl
  rw [this]; omega

theorem swap_nn {xs : List Int} (h : ∀ x ∈ xs, 0 ≤ x) (i j : Nat) : ∀ x ∈ swapL xs i j, 0 ≤ x := by
  have g : ∀ k, 0 ≤ xs.getD k 0 := by
    intro k
    rw [List.getD_eq_getElem?_getD]
    cases hk : xs[k]? with
    | none => simp
    | some y => exact h y (List.mem_of_getElem? hk)
  intro x hx
  unfold swapL at hx
  rcases List.mem_or_eq_of_mem_set hx with hx | rfl
  · rcases List.mem_or_eq_of_mem_set hx with hx | rfl
    · exact h x hx
    · exact g j
  · exact g i

theorem swap_same {xs : List Int} (h : ∀ x ∈ xs, 0 ≤ x) {i j : Nat} (hi : i < xs.length) (hj : j < xs.length) : sumFrom 0 (swapL xs i j) = sumFrom 0 xs := by
  rw [sumFrom_nn _ 0 (by decide) (by omega) h, sumFrom_nn _ 0 (by decide) (by omega) (swap_nn h i j), swap_sum xs i j hi hj]

theorem place_of (i : Int) (n : Nat) (hn : 0 < n) : ∃ A : Nat, A < n ∧ (i.tmod n < 0 → i.tmod n + n = A) ∧ (¬ i.tmod n < 0 → i.tmod n = A) ∧ -(n : Int) < i.tmod n ∧ i.tmod n < n := by
  have h2 : i.tmod n < n := Int.tmod_lt_of_pos _ (by omega)
  have h1 : -(n : Int) < i.tmod n := by
    have := Int.tmod_lt_of_pos (-i) (b := (n : Int)) (by omega)
    rw [Int.neg_tmod] at this; omega
  by_cases h : i.tmod n < 0
  · exact ⟨(i.tmod n + n).toNat, by omega, fun _ => by omega, fun h' => absurd h h', h1, h2⟩
  · exact ⟨(i.tmod n).toNat, by omega, fun h' => absurd h' h, fun _ => by omega, h1, h2⟩

theorem row_swap {w : World} {k : IntKind} {g : Nat} {xs : List Int} {A B : Nat} (hr : Row w (some ⟨g, 0, none⟩) (xs.map (.int k))) (hA : A < xs.length) (hB : B < xs.length) :
    Row ((w.setCell ⟨g, A, none⟩ (.int k (xs.getD B 0))).setCell ⟨g, B, none⟩ (.int k (xs.getD A 0))) (some ⟨g, 0, none⟩) ((swapL xs A B).map (.int k)) := by
  intro i hi
  have hi' : i < xs.length := by simpa [swapL] using hi
  refine ⟨g, 0, rfl, ?_⟩
  obtain ⟨b, off, hb, hc⟩ := hr.int i hi'
  cases hb
  simp only [Nat.zero_add] at hc ⊢
  have hcell : ∀ (w : World) (p : Nat) (v x : Value) (q : Nat), w.cell? ⟨g, q, none⟩ = some v → (w.setCell ⟨g, p, none⟩ x).cell? ⟨g, q, none⟩ = some (if q = p then x else v) := by
    intro w p v x q h
    unfold World.cell? World.setCell at *
    simp only [Array.getElem?_modify, if_true] at h ⊢
    cases hb : w.heap[g]? with
    | none => simp [hb] at h
    | some o =>
      cases o with
      | cells c e f =>
        simp only [hb, Option.isSome_none, Bool.false_eq_true, if_false] at h ⊢
        simp only [Option.map_some, Array.getElem?_setIfInBounds]
        have hq : q < c.size := by
          rcases Nat.lt_or_ge q c.size with h1 | h1
          · exact h1
          · simp [Array.getElem?_eq_none h1] at h
        by_cases hpq : q = p
        · subst hpq; simp [hq]
        · simp [hpq, Ne.symm hpq, h]
      | _ => simp [hb] at h
  rw [hcell _ _ _ _ _ (hcell _ _ _ _ _ hc)]
  congr 1
  unfold swapL
  simp only [List.getD_eq_getElem?_getD, List.getElem?_map, List.getElem?_set, List.length_set]
  by_cases h1 : i = B
  · subst h1; simp [hi']
  · by_cases h2 : i = A
    · subst h2; simp [h1, Ne.symm h1, hi']
    · simp [h1, h2, Ne.symm h1, Ne.symm h2, hi']

theorem sum_anyN (a : Option Addr) (n cap : Nat) (xs : List Int) (w : World) (hn : xs.length = n) (hr : Row w a (xs.map (.int .i64))) (hm : xs.length ≤ 9223372036854775807) :
    Calls Try.prog 24 #[.slice a n cap] w fun e w' => e = .returned (.tuple #[.int .i64 (sumFrom 0 xs).1, .int .i64 (sumFrom 0 xs).2]) ∧ Below w.heap.size w w' := by
  subst hn; exact sum_any a cap xs w hr hm

/-- the state of adding one by one -/
def AddAt (xs : List Int) (n : Nat) (s g : Int) : Prop := (g = 0 ∧ sumFrom 0 xs = sumFrom s (xs.drop n)) ∨ (g = 7 ∧ s = 0 ∧ sumFrom 0 xs = (0, 7))

theorem i64rowB : (Try.prog.info? 2).map (fun i => (i.zero, i.size, i.bytes)) = some (some (.int .i64 0), 1, 8) := by kernel_rfl

set_option maxRecDepth 100000 in
set_option maxHeartbeats 4000000 in
theorem order_walk (a : Option Addr) (len cap : Nat) (zs : List Int) (i k : Int) (w : World) (hrow : IsRow .i64 w a len cap zs) (_wi : (Lit.int .i64 i).wf = true) (_wk : (Lit.int .i64 k).wf = true) :
    Calls Try.prog 8 #[.slice a len cap, .int .i64 i, .int .i64 k] w fun e w' => e = .returned (.bool true) ∧ Below w.heap.size w w' := by
  obtain ⟨xs, rfl, hr, hm, hc, -⟩ := hrow.row
  unfold maxLen at hm
  have Hr := hid hr
  have Hc := hid hc
  clear hr hc hrow
  by_cases hl : 200 < xs.length
  · go_enter Try.func8, Try.ntmps8
    go_wp2_with fail
    refine (wakes5 _).mono ?_
    rintro e w4 ⟨rfl, k4⟩
    go_wp2
    go_ret
    exact ⟨rfl, k4⟩
  by_cases h0 : xs.length = 0
  · have h0' : ((xs.length : Int) == 0) = true := by rw [beq_iff_eq]; omega
    clear h0
    go_enter Try.func8, Try.ntmps8
    go_wp2_with fail
    refine (wakes5 _).mono ?_
    rintro e w4 ⟨rfl, k4⟩
    go_wp2
    go_ret
    exact ⟨rfl, k4⟩
  have h0' : ((xs.length : Int) == 0) = false := by rw [beq_eq_false_iff_ne]; omega
  have hd : decide ((200 : Int) < xs.length) = false := by simp; omega
  obtain ⟨A, hA, pA1, pA2, pA3, pA4⟩ := place_of i xs.length (by omega)
  obtain ⟨B, hB, pB1, pB2, pB3, pB4⟩ := place_of k xs.length (by omega)
  have PA := hid (And.intro pA1 pA2)
  have PB := hid (And.intro pB1 pB2)
  clear pA1 pA2 pB1 pB2 h0
  go_enter Try.func8, Try.ntmps8
  go_wp2
  go_loop [7] (fun j => ∃ n : Nat, n ≤ xs.length ∧ j = .int .i64 n ∧ Hid (∀ x ∈ xs.take n, 0 ≤ x)) (fun j => xs.length - (intOf j).toNat)
  case atStart => exact ⟨0, Nat.zero_le _, rfl, hid (by simp)⟩
  case round =>
    obtain ⟨n, hn, rfl, hnn⟩ := hrel
    by_cases hlt : n < xs.length
    · obtain ⟨b, off, rfl, hc⟩ := Hr.out.int n hlt
      have htk : xs.take (n + 1) = xs.take n ++ [xs.getD n 0] := by
        rw [List.take_succ_eq_append_getElem hlt]; simp [List.getD_eq_getElem?_getD, hlt]
      generalize hx : xs.getD n 0 = x at *
      have HTK := hid htk
      clear hx htk
      by_cases hneg : x < 0
      · go_wp2_with fail
        refine (wakes5 _).mono ?_
        rintro e w4 ⟨rfl, k4⟩
        go_wp2
        go_ret
        exact ⟨rfl, k4⟩
      · go_wp2
        go_round
        case rel =>
          refine ⟨n + 1, by omega, by go_num, ?_⟩
          unfold Hid; rw [HTK.out]
          intro y hy
          rcases List.mem_append.1 hy with h | h
          · exact hnn.out y h
          · rw [List.mem_singleton.1 h]; omega
        case measure => simp [intOf]; omega
    · obtain rfl : n = xs.length := by omega
      have hall := hnn.out
      rw [List.take_length] at hall
      have HALL := hid hall
      clear hall hnn
      go_wp2
      obtain ⟨p, hp⟩ : ∃ p, i.tmod (xs.length : Int) = p := ⟨_, rfl⟩
      obtain ⟨q, hq⟩ : ∃ p, k.tmod (xs.length : Int) = p := ⟨_, rfl⟩
      have PA' := PA.out
      have PB' := PB.out
      rw [hp] at pA3 pA4 PA'
      rw [hq] at pB3 pB4 PB'
      have PA2 := hid PA'
      have PB2 := hid PB'
      clear PA PB PA' PB'
      go_region
      go_upto_if 48 with fail
      go_cut [8] (fun s wx => s = .int .i64 A ∧ wx = w.drew)
      case first =>
        by_cases hpn : p < 0
        · have e := PA2.out.1 hpn
          have E := hid e
          clear e
          go_wp2
          go_meet
          case rel => exact ⟨by rw [E.out], rfl⟩
        · have e := PA2.out.2 (by omega)
          have E := hid e
          clear e
          go_wp2
          go_meet
          case rel => exact ⟨by rw [E.out], rfl⟩
      case rest =>
      obtain ⟨rfl, rfl⟩ := hcut
      go_upto_if 54 with fail
      go_cut [9] (fun s wx => s = .int .i64 B ∧ wx = w.drew)
      case first =>
        by_cases hpn : q < 0
        · have e := PB2.out.1 hpn
          have E := hid e
          clear e
          go_wp2
          go_meet
          case rel => exact ⟨by rw [E.out], rfl⟩
        · have e := PB2.out.2 (by omega)
          have E := hid e
          clear e
          go_wp2
          go_meet
          case rel => exact ⟨by rw [E.out], rfl⟩
      case rest =>
      obtain ⟨rfl, rfl⟩ := hcut
      have hr1 : Row w.drew a (xs.map (.int .i64)) := Hr.out
      go_wp2_with (at_builtin; (refine wpList_append_row rfl _ _ 39 rfl w.heap.size 2 (.int .i64 0) 1 8 Try.underlying39 i64rowB rfl (by decide) (.slice none 0 0) 0 [] rfl ⟨rfl, .inl ⟨rfl, rfl⟩⟩ a xs.length cap (xs.map (.int .i64)) rfl Hc.out hr1 (by simp) (by simp [Value.oneCell']) (by unfold maxLen; omega) (by omega) (Nat.le_refl _) ?_); intro v' w1 hown hgrow)
      obtain ⟨a', cap', rfl, hr', -⟩ := row_of_owns hown
      have hb1 : Below w.heap.size w w1 := (Below.refl _ _).drew.grown hgrow (Nat.le_refl _) (fun k h => by simp [Value.ownBlock] at h)
      have hnew : ∃ g, a' = some ⟨g, 0, none⟩ ∧ w.heap.size ≤ g ∧ ∃ c e, w1.heap[g]? = some (.cells c e (0, 0)) := by
        obtain ⟨_, h | ⟨g, cap2, cur, hv, hg, hh, -⟩⟩ := hown
        · have := h.2; omega
        · cases hv; exact ⟨g, rfl, hg, cur, _, hh⟩
      obtain ⟨g, rfl, hg, c0, e0, hfz⟩ := hnew
      simp only [List.nil_append] at hr'
      obtain ⟨_, _, hg1, hcA⟩ := hr'.int A hA
      cases hg1
      obtain ⟨_, _, hg2, hcB⟩ := hr'.int B hB
      cases hg2
      simp only [Nat.zero_add] at hcA hcB
      have hsw := row_swap hr' hA hB
      have HSW := hid hsw
      have Hr' := hid hr'
      clear hr' hsw hown hgrow hr1
      generalize hxA : xs.getD A 0 = xA at *
      generalize hxB : xs.getD B 0 = xB at *
      have HXA := hid hxA
      have HXB := hid hxB
      clear hxA hxB
      have fzA : w1.frozen? ⟨g, A, none⟩ = false := by simp [World.frozen?, hfz]
      have fzB : ∀ v, (w1.setCell ⟨g, A, none⟩ v).frozen? ⟨g, B, none⟩ = false := by intro v; simp [World.frozen?, World.setCell, Array.getElem?_modify, hfz]
      obtain ⟨vB, hvB⟩ := cell?_setCell_some (w := w1) (p := ⟨g, A, none⟩) (x := .int .i64 xB) (q := ⟨g, B, none⟩) (v := .int .i64 xB) hcB
      simp only [Nat.zero_add]
      go_wp2
      go_region
      have hb2 := ((hb1.setCell (p := ⟨g, A, none⟩) hg (.int .i64 xB)).setCell (p := ⟨g, B, none⟩) hg (.int .i64 xA)).drew
      go_wp2_with fail
      refine (sum_any _ _ xs _ (Hr.out.kept hb2) hm).mono ?_
      rintro e w2 ⟨rfl, k2⟩
      have hrs : Row w2 (some ⟨g, 0, none⟩) ((swapL xs A B).map (.int .i64)) := Row.kept k2 HSW.out
      have HRS := hid hrs
      clear hrs
      have hlen : (swapL xs A B).length = xs.length := by simp [swapL]
      have HLEN := hid hlen
      clear hlen
      go_wp2_with fail
      refine (sum_anyN _ _ _ (swapL xs A B) _ HLEN.out HRS.out (by rw [HLEN.out]; omega)).mono ?_
      rintro e w3 ⟨rfl, k3⟩
      have hsame := swap_same HALL.out hA hB
      rw [hsame]
      have hb4 := bt (bt hb2 k2) k3
      clear hb1 hb2 k2 k3 hvB fzA fzB hcA hcB hsame
      go_wp2
      go_loopw [15, 16, 17] (fun x y z wr => ∃ (n : Nat) (s g : Int), n ≤ xs.length ∧ z = .int .i64 n ∧ x = .int .i64 s ∧ y = .int .i64 g ∧ Hid (AddAt xs n s g) ∧ Below w.heap.size w wr) (fun _ _ z _ => xs.length - (intOf z).toNat)
      case atStart => exact ⟨0, 0, 0, Nat.zero_le _, rfl, rfl, rfl, .inl ⟨rfl, rfl⟩, hb4⟩
      case round =>
        obtain ⟨n, s, e0, hn, rfl, rfl, rfl, hadd, hbel⟩ := hrel
        rcases hadd.out with ⟨rfl, hs⟩ | ⟨rfl, rfl, hs⟩
        · have HS := hid hs
          clear hs hadd
          by_cases hlt : n < xs.length
          · obtain ⟨b, off, rfl, hc⟩ := (Hr.out.kept hbel).int n hlt
            generalize hx : xs.getD n 0 = x at *
            have HX := hid hx
            clear hx
            rcases addI_cases s x with ⟨h0, -, -, -, h1⟩ | ⟨h0, h1, -⟩
            · have e : addI s x = (s + x, 0) := Prod.ext h1 h0
              have E := hid e
              have hst : Hid (AddAt xs (n + 1) (s + x) 0) := .inl ⟨rfl, by rw [sum_step hlt HX.out HS.out (by rw [E.out]), E.out]⟩
              clear h0 h1
              go_wp2_with fail
              refine (add_any _ _ _).mono ?_
              rintro e w4 ⟨rfl, k4⟩
              go_wp2
              go_roundw
              case rel => exact ⟨n + 1, _, _, by omega, by go_num, rfl, rfl, hst, bt hbel k4⟩
              case measure => simp [intOf]; omega
            · have e : addI s x = (0, 7) := Prod.ext h1 h0
              have E := hid e
              have hst : Hid (AddAt xs (n + 1) 0 7) := .inr ⟨rfl, rfl, by rw [sum_stop hlt HX.out HS.out (by rw [E.out]; decide)]⟩
              clear h0 h1
              go_wp2_with fail
              refine (add_any _ _ _).mono ?_
              rintro e w4 ⟨rfl, k4⟩
              go_wp2
              go_roundw
              case rel => exact ⟨n + 1, _, _, by omega, by go_num, rfl, rfl, hst, bt hbel k4⟩
              case measure => simp [intOf]; omega
          · obtain rfl : n = xs.length := by omega
            have he : sumFrom 0 xs = (s, 0) := by rw [HS.out, List.drop_length]; rfl
            go_wp2_with fail
            refine (wakes5 _).mono ?_
            rintro e w4 ⟨rfl, k4⟩
            go_wp2
            go_ret
            exact ⟨rfl, bt hbel k4⟩
        · clear hadd
          go_wp2_with fail
          all_goals (refine (wakes5 _).mono ?_; rintro e w4 ⟨rfl, k4⟩)
          go_wp2
          all_goals (go_ret; exact ⟨rfl, bt hbel k4⟩)
end Go.Proofs.Ytgikoobngohdnaa
