/- MoneyParts: the whole part and the rest make up what was shared. -/
import Derived.Test.YtgikoobngohdnaaMoney7
import Derived.Deep.DeepCutAuto
namespace Go.Proofs.Ytgikoobngohdnaa
open Go.RowKit Go.Lib Go.Tk

theorem wf16 {a : Int} (h : (Lit.int .u16 a).wf = true) : 0 ≤ a ∧ a ≤ 65535 := by
  simpa [Lit.wf, IntKind.min, IntKind.max, IntKind.signed, IntKind.bits] using h

theorem sum_take_succ {xs : List Int} {n : Nat} (h : n < xs.length) : (xs.take (n + 1)).sum = (xs.take n).sum + xs.getD n 0 := by
  rw [List.take_succ_eq_append_getElem h, List.sum_append]; simp [List.getD_eq_getElem?_getD, h]

theorem sum_bd : ∀ (xs : List Int) (M : Int), (∀ x ∈ xs, 0 ≤ x ∧ x ≤ M) → 0 ≤ xs.sum ∧ xs.sum ≤ xs.length * M
  | [], _, _ => by simp
  | x :: r, M, h => by
    have h1 := sum_bd r M (fun y hy => h y (by simp [hy]))
    have h2 := h x (by simp)
    have e : ((r.length : Int) + 1) * M = r.length * M + M := by rw [Int.add_mul, Int.one_mul]
    simp only [List.sum_cons, List.length_cons, Int.natCast_add, Int.cast_ofNat_Int]
    constructor
    · omega
    · rw [e]; omega

theorem getD_mem {xs : List Int} {n : Nat} (h : n < xs.length) : xs.getD n 0 ∈ xs := by
  rw [List.getD_eq_getElem?_getD, List.getElem?_eq_getElem h]; exact List.getElem_mem h

theorem sum_rest {xs : List Int} {n : Nat} {M : Int} (h : n < xs.length) (hx : ∀ x ∈ xs, 0 ≤ x ∧ x ≤ M) : xs.getD n 0 ≤ xs.sum := by
  have e : xs.sum = (xs.take n).sum + (xs.getD n 0 + (xs.drop (n + 1)).sum) := by
    conv => lhs; rw [← List.take_append_drop n xs, List.sum_append, drop_step h, List.sum_cons]
  have h1 := (sum_bd (xs.take n) M (fun x hx' => hx x (List.mem_of_mem_take hx'))).1
  have h2 := (sum_bd (xs.drop (n + 1)) M (fun x hx' => hx x (List.mem_of_mem_drop hx'))).1
  omega

theorem take_le {xs : List Int} {n : Nat} {M : Int} (hx : ∀ x ∈ xs, 0 ≤ x ∧ x ≤ M) : 0 ≤ (xs.take n).sum ∧ (xs.take n).sum ≤ xs.sum := by
  have e : xs.sum = (xs.take n).sum + (xs.drop n).sum := by
    conv => lhs; rw [← List.take_append_drop n xs, List.sum_append]
  have h1 := (sum_bd (xs.take n) M (fun x hx' => hx x (List.mem_of_mem_take hx'))).1
  have h2 := (sum_bd (xs.drop n) M (fun x hx' => hx x (List.mem_of_mem_drop hx'))).1
  omega

/-- what is shared out so far, and what was left each time -/
def PartsAt (a f : Int) (xs : List Int) (n : Nat) (A R : Int) : Prop := A * f + R = a * (xs.take n).sum ∧ 0 ≤ A ∧ 0 ≤ R ∧ R ≤ n * (f - 1)

theorem parts_step {a f x A R : Int} {xs : List Int} {n : Nat} (h : PartsAt a f xs n A R) (hn : n < xs.length) (hx : xs.getD n 0 = x) (hok : PartOk a x f) :
    PartsAt a f xs (n + 1) (A + partW a x f) (R + partR a x f) ∧ (0 ≤ partW a x f ∧ partW a x f ≤ a) ∧ 0 ≤ partR a x f ∧ partR a x f < f := by
  obtain ⟨h1, h2, h3, h4⟩ := h
  have hok' := hok
  obtain ⟨p1, p2, p3, p4, p5, p6⟩ := hok'
  have d := Int.mul_ediv_add_emod (a * x) f
  have r := part_rest (V := a * x) (f := f) (by omega)
  have w0 : 0 ≤ a * x / f := Int.ediv_nonneg (Int.mul_nonneg p1 p3) (by omega)
  have w1 : a * x / f ≤ a := part_le (Int.le_refl _) rfl (by omega) p5 p1
  unfold partW partR
  rw [if_pos hok, if_pos hok]
  refine ⟨⟨?_, by omega, by omega, ?_⟩, ⟨w0, w1⟩, r.1, r.2⟩
  · rw [sum_take_succ hn, hx, Int.add_mul, Int.mul_add, ← h1, Int.mul_comm (a * x / f)]; omega
  · rw [Int.natCast_add, Int.add_mul]; simp only [Int.cast_ofNat_Int, Int.one_mul]; omega

theorem parts_le {a f A R : Int} {xs : List Int} {n : Nat} {M : Int} (h : PartsAt a f xs n A R) (hx : ∀ x ∈ xs, 0 ≤ x ∧ x ≤ M) (hf : xs.sum = f) (h0 : 0 < f) (ha : 0 ≤ a) : A ≤ a := by
  obtain ⟨h1, h2, h3, h4⟩ := h
  have := (take_le (n := n) hx).2
  have h5 : a * (xs.take n).sum ≤ a * f := Int.mul_le_mul_of_nonneg_left (by omega) ha
  exact Int.le_of_mul_le_mul_right (by omega) h0

theorem parts_end {a f A R : Int} {xs : List Int} (h : PartsAt a f xs xs.length A R) (hf : xs.sum = f) (h0 : 0 < f) : R % f = 0 ∧ A + R / f = a := by
  obtain ⟨h1, h2, h3, h4⟩ := h
  rw [List.take_length, hf] at h1
  have e : R = (a - A) * f := by rw [Int.sub_mul]; omega
  rw [e, Int.mul_emod_left, Int.mul_ediv_cancel _ (by omega)]
  omega

/-- each time less than f is left -/
theorem parts_lack {a f A R : Int} {xs : List Int} (h : PartsAt a f xs xs.length A R) (hf : xs.sum = f) (h0 : 0 < f) (hl : 0 < xs.length) : a - A < xs.length := by
  obtain ⟨h1, h2, h3, h4⟩ := h
  rw [List.take_length, hf] at h1
  have e : R = (a - A) * f := by rw [Int.sub_mul]; omega
  have hR : R < xs.length * f := by rw [Int.mul_sub] at h4; omega
  rw [e] at hR
  exact Int.lt_of_mul_lt_mul_right hR (by omega)

set_option maxRecDepth 100000 in
set_option maxHeartbeats 4000000 in
theorem parts_walk (a : Int) (l : Option Addr) (len cap : Nat) (zs : List Int) (w : World) (wa : (Lit.int .i64 a).wf = true) (hrow : IsRow .u16 w l len cap zs) :
    Calls Try.prog 6 #[.int .i64 a, .slice l len cap] w fun e w' => e = .returned (.bool true) ∧ Below w.heap.size w w' := by
  obtain ⟨xs, rfl, hr, hm, hc, hwf⟩ := hrow.row
  unfold maxLen at hm
  have hx : ∀ x ∈ xs, 0 ≤ x ∧ x ≤ 65535 := fun x hx => wf16 (hwf x hx)
  have Hr := hid hr
  have Hx := hid hx
  obtain ⟨a1, a2⟩ := wf64 wa
  clear hr hc hrow hwf hx
  by_cases hl : 60 < xs.length
  · go_enter Try.func6, Try.ntmps6
    go_wp2_with fail
    refine (wakes5 _).mono ?_
    rintro e w4 ⟨rfl, k4⟩
    go_wp2
    go_ret
    exact ⟨rfl, k4⟩
  by_cases h0 : xs.length = 0
  · have h0' : ((xs.length : Int) == 0) = true := by rw [beq_iff_eq]; omega
    clear h0
    go_enter Try.func6, Try.ntmps6
    go_wp2_with fail
    refine (wakes5 _).mono ?_
    rintro e w4 ⟨rfl, k4⟩
    go_wp2
    go_ret
    exact ⟨rfl, k4⟩
  have h0' : ((xs.length : Int) == 0) = false := by rw [beq_eq_false_iff_ne]; omega
  have hd : decide ((60 : Int) < xs.length) = false := by simp; omega
  obtain ⟨f, hf⟩ : ∃ f, xs.sum = f := ⟨_, rfl⟩
  have hfb := sum_bd xs 65535 Hx.out
  rw [hf] at hfb
  have hfb2 : f ≤ 3932100 := by omega
  obtain ⟨hf0, -⟩ := hfb
  have HF := hid hf
  clear hf
  go_enter Try.func6, Try.ntmps6
  go_wp2
  go_loop [5, 6] (fun s j => ∃ n : Nat, n ≤ xs.length ∧ j = .int .i64 n ∧ s = .int .i64 (xs.take n).sum) (fun _ j => xs.length - (intOf j).toNat)
  case atStart => exact ⟨0, Nat.zero_le _, rfl, by simp⟩
  case round =>
    obtain ⟨n, hn, rfl, rfl⟩ := hrel
    by_cases hlt : n < xs.length
    · obtain ⟨b, off, rfl, hc⟩ := Hr.out.int n hlt
      have hst := sum_take_succ hlt
      have hxb := Hx.out _ (getD_mem hlt)
      have htl := take_le (n := n) Hx.out
      rw [HF.out] at htl
      generalize hx : xs.getD n 0 = x at *
      obtain ⟨s, hs⟩ : ∃ s, s = (xs.take n).sum := ⟨_, rfl⟩
      rw [← hs] at hst htl ⊢
      have HST := hid hst
      clear hx hst hs
      go_wp2
      go_round
      case rel => exact ⟨n + 1, by omega, by go_num, by rw [HST.out]⟩
      case measure => simp [intOf]; omega
    · obtain rfl : n = xs.length := by omega
      rw [List.take_length, HF.out]
      by_cases hf1 : f = 0
      · have hf2 : (f == 0) = true := by rw [beq_iff_eq]; omega
        have hno : ¬ PartOk a 0 f := by unfold PartOk; omega
        have e7 : partE a 0 f = 7 := by simp [partE, hno]
        clear hf1
        go_wp2_with fail
        refine (part_any _ _ _ _).mono ?_
        rintro e w4 ⟨rfl, k4⟩
        go_wp2_with fail
        refine (wakes5 _).mono ?_
        rintro e w5 ⟨rfl, k5⟩
        go_wp2
        go_ret
        exact ⟨rfl, bt k4 k5⟩
      have hf2 : (f == 0) = false := by rw [beq_eq_false_iff_ne]; omega
      have hf3 : 0 < f := by omega
      clear hf1
      by_cases ha : a < 0
      · have hno : ¬ PartOk a 0 f := by unfold PartOk; omega
        have e7 : partE a 0 f = 7 := by simp [partE, hno]
        go_wp2_with fail
        refine (part_any _ _ _ _).mono ?_
        rintro e w4 ⟨rfl, k4⟩
        go_wp2_with fail
        refine (wakes5 _).mono ?_
        rintro e w5 ⟨rfl, k5⟩
        go_wp2
        go_ret
        exact ⟨rfl, bt k4 k5⟩
      cases hm : mayI a
      · have hno : ¬ PartOk a 0 f := by
          intro h; rw [← Bool.not_eq_true] at hm; apply hm; simp only [mayI, Bool.and_eq_true, decide_eq_true_eq]; exact ⟨by omega, h.2.1⟩
        have e7 : partE a 0 f = 7 := by simp [partE, hno]
        have e8 : errI a = 7 := by simp [errI, hm]
        clear hm
        go_wp2_with fail
        refine (check_any _ _).mono ?_
        rintro e w3 ⟨rfl, k3⟩
        go_wp2_with fail
        refine (part_any _ _ _ _).mono ?_
        rintro e w4 ⟨rfl, k4⟩
        go_wp2_with fail
        refine (check_any _ _).mono ?_
        rintro e w5 ⟨rfl, k5⟩
        go_wp2_with fail
        refine (wakes5 _).mono ?_
        rintro e w6 ⟨rfl, k6⟩
        go_wp2
        go_ret
        exact ⟨rfl, bt (bt (bt k3 k4) k5) k6⟩
      have e8 : errI a = 0 := by simp [errI, hm]
      obtain ⟨-, hma⟩ := mayI_of hm
      clear hm
      go_wp2_with fail
      refine (check_any _ _).mono ?_
      rintro e w3 ⟨rfl, k3⟩
      go_wp2
      go_loopw [10, 11, 12] (fun x y z wr => ∃ (n : Nat) (A R : Int), n ≤ xs.length ∧ z = .int .i64 n ∧ x = .int .i64 A ∧ y = .int .i64 R ∧ Hid (PartsAt a f xs n A R) ∧ Below w.heap.size w wr) (fun _ _ z _ => xs.length - (intOf z).toNat)
      case atStart => exact ⟨0, 0, 0, Nat.zero_le _, rfl, rfl, rfl, hid ⟨by simp, by omega, by omega, by simp⟩, k3⟩
      case round =>
        obtain ⟨n, A, R, hn, rfl, rfl, rfl, hp, hbel⟩ := hrel
        have hA := parts_le hp.out Hx.out HF.out hf3 (by omega)
        have hA0 := hp.out.2.1
        have hR0 := hp.out.2.2.1
        have hR1 : R ≤ 60 * 3932100 := by
          have h1 := hp.out.2.2.2
          have h2 : (n : Int) * (f - 1) ≤ 60 * (f - 1) := Int.mul_le_mul_of_nonneg_right (by omega) (by omega)
          omega
        by_cases hlt : n < xs.length
        · obtain ⟨b, off, rfl, hc⟩ := (Hr.out.kept hbel).int n hlt
          have hxb := Hx.out _ (getD_mem hlt)
          have hxf := sum_rest hlt Hx.out
          rw [HF.out] at hxf
          generalize hx : xs.getD n 0 = x at *
          have hok : PartOk a x f := by unfold PartOk; omega
          obtain ⟨hst, ⟨w0, w1⟩, r0, r1⟩ := parts_step hp.out hlt hx hok
          have e0 : partE a x f = 0 := by simp [partE, hok]
          have HST := hid hst
          clear hx hst hok
          go_wp2_with fail
          refine (part_any _ _ _ _).mono ?_
          rintro e w4 ⟨rfl, k4⟩
          go_wp2
          go_roundw
          case rel => exact ⟨n + 1, _, _, by omega, by go_num, rfl, rfl, HST, bt hbel k4⟩
          case measure => simp [intOf]; omega
        · obtain rfl : n = xs.length := by omega
          obtain ⟨e1, e2⟩ := parts_end hp.out HF.out hf3
          have e3 := parts_lack hp.out HF.out hf3 (by omega)
          have e1' : (R % f == 0) = true := by rw [e1]; rfl
          have e2' : (A + R / f == a) = true := by rw [e2]; simp
          have hq : 0 ≤ R / f := Int.ediv_nonneg hR0 (by omega)
          have E2 := hid e2
          have hq2 : A + R / f ≤ 1125899906842624 := by omega
          clear e1 e2
          go_wp2_with fail
          refine (wakes5 _).mono ?_
          rintro e w4 ⟨rfl, k4⟩
          go_wp2
          go_ret
          exact ⟨rfl, bt hbel k4⟩
end Go.Proofs.Ytgikoobngohdnaa
