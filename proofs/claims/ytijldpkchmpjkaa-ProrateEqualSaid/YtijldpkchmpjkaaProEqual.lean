/- ProrateEqual: of equal weights shares differ by one unit at most. -/
import Derived.Test.YtijldpkchmpjkaaProExact
namespace Go.Proofs.Ytijldpkchmpjkaa
open Go.RowKit Go.Lib Go.Tk Go.Sort Go.Shelf

theorem equal_val {t x : Int} {n : Nat} (hn : 1 ≤ n) (hn2 : n ≤ 64) (hx : 0 < x) (ht0 : 0 ≤ t) (ht1 : t ≤ 1125899906842624) : shareE t (List.replicate n x) = 0 ∧ shareV t (List.replicate n x) = shareL t (List.replicate n x) := by
  have hs : (List.replicate n x).sum ≠ 0 := by
    rw [sum_replicate]
    have : 0 < (n : Int) * x := Int.mul_pos (by omega) hx
    omega
  have e : shareE t (List.replicate n x) = 0 := by unfold shareE; rw [if_neg (by simp; omega), if_neg hs, if_pos ⟨ht0, ht1⟩]
  exact ⟨e, by unfold shareV; rw [if_pos e]⟩

theorem rep_succ (k : Nat) (v : Value) : List.replicate (k + 1) v = List.replicate k v ++ [v] := by rw [List.replicate_succ']

/-- where the law looks at the shares -/
def EqOk (t x n : Int) : Prop := 1 ≤ n ∧ n ≤ 64 ∧ x ≠ 0 ∧ 0 ≤ t ∧ mayI t = true

set_option maxHeartbeats 2000000 in
theorem equal_no (t x n : Int) (w : World) (hx : 0 ≤ x) (h : ¬ EqOk t x n) :
    Calls Try.prog 4 #[.int .i64 t, .int .u32 x, .int .i64 n] w fun e w' => e = .returned (.bool true) ∧ Below w.heap.size w w' := by
  have hc : n < 1 ∨ (1 ≤ n ∧ 64 < n) ∨ (1 ≤ n ∧ n ≤ 64 ∧ x = 0) ∨ (1 ≤ n ∧ n ≤ 64 ∧ 0 < x ∧ t < 0) ∨ (1 ≤ n ∧ n ≤ 64 ∧ 0 < x ∧ 0 ≤ t ∧ mayI t = false) := by
    unfold EqOk at h
    cases hm : mayI t with
    | true => rw [hm] at h; simp at h; omega
    | false => simp; omega
  clear h
  rcases hc with h1 | ⟨h1, h2⟩ | ⟨h1, h2, h3⟩ | ⟨h1, h2, h3, h4⟩ | ⟨h1, h2, h3, h4, h5⟩
  · have d1 : decide (n < 1) = true := decide_eq_true h1
    go_enter Try.func4, Try.ntmps4
    go_wp2_with fail
    refine (wakes6 _).mono ?_
    rintro e w4 ⟨rfl, k4⟩
    go_wp2
    go_ret
    exact ⟨rfl, k4⟩
  · have d1 : decide (n < 1) = false := decide_eq_false (by omega)
    have d2 : decide (n > 64) = true := decide_eq_true h2
    go_enter Try.func4, Try.ntmps4
    go_wp2_with fail
    refine (wakes6 _).mono ?_
    rintro e w4 ⟨rfl, k4⟩
    go_wp2
    go_ret
    exact ⟨rfl, k4⟩
  · have d1 : decide (n < 1) = false := decide_eq_false (by omega)
    have d2 : decide (n > 64) = false := decide_eq_false (by omega)
    subst h3
    go_enter Try.func4, Try.ntmps4
    go_wp2_with fail
    refine (wakes6 _).mono ?_
    rintro e w4 ⟨rfl, k4⟩
    go_wp2
    go_ret
    exact ⟨rfl, k4⟩
  · have d1 : decide (n < 1) = false := decide_eq_false (by omega)
    have d2 : decide (n > 64) = false := decide_eq_false (by omega)
    have d3 : (x == 0) = false := by simp; omega
    have d4 : decide (t < 0) = true := decide_eq_true h4
    go_enter Try.func4, Try.ntmps4
    go_wp2_with fail
    refine (wakes6 _).mono ?_
    rintro e w4 ⟨rfl, k4⟩
    go_wp2
    go_ret
    exact ⟨rfl, k4⟩
  · have d1 : decide (n < 1) = false := decide_eq_false (by omega)
    have d2 : decide (n > 64) = false := decide_eq_false (by omega)
    have d3 : (x == 0) = false := by simp; omega
    have d4 : decide (t < 0) = false := decide_eq_false (by omega)
    have d5 : (errI t != 0) = true := by simp [errI, h5]
    go_enter Try.func4, Try.ntmps4
    go_wp2_with fail
    refine (check_any _ _).mono ?_
    rintro e w3 ⟨rfl, k3⟩
    go_wp2_with fail
    refine (wakes6 _).mono ?_
    rintro e w4 ⟨rfl, k4⟩
    go_wp2
    go_ret
    exact ⟨rfl, bt k3 k4⟩

set_option maxHeartbeats 4000000 in
set_option maxRecDepth 100000 in
theorem equal_yes (t x : Int) (n : Nat) (w : World) (hn1 : 1 ≤ n) (hn2 : n ≤ 64) (hx : 0 < x) (hx2 : x ≤ 4294967295) (ht0 : 0 ≤ t) (hm : mayI t = true) :
    Calls Try.prog 4 #[.int .i64 t, .int .u32 x, .int .i64 n] w fun e w' => e = .returned (.bool true) ∧ Below w.heap.size w w' := by
  have d1 : decide ((n : Int) < 1) = false := decide_eq_false (by omega)
  have d2 : decide ((n : Int) > 64) = false := decide_eq_false (by omega)
  have d3 : (x == 0) = false := by simp; omega
  have d4 : decide (t < 0) = false := decide_eq_false (by omega)
  have d5 : (errI t != 0) = false := by simp [errI, hm]
  have ht1 : t ≤ 1125899906842624 := (mayI_of hm).2
  obtain ⟨hE, hV⟩ := equal_val (t := t) (x := x) hn1 hn2 hx ht0 ht1
  have hlen := shareV_len hE
  rw [List.length_replicate] at hlen
  have HE := hid hE
  have HV := hid hV
  have HL := hid hlen
  have HP : Aside (PosRow (List.replicate n x)) := fun y hy => by rw [List.eq_of_mem_replicate hy]; omega
  have hmx : ∀ k, k < n → k + 1 ≤ maxLen := fun k _ => by unfold maxLen; omega
  have HMX := hid hmx
  have HI := hid u32row
  have hp0 : (0 : Int) ≤ t % n := Int.emod_nonneg _ (by omega)
  have hp1 : t % n < n := Int.emod_lt_of_pos _ (by omega)
  have hp2 : (0 : Int) ≤ t / n := Int.ediv_nonneg ht0 (by omega)
  have hp3 : t / n ≤ t := Int.ediv_le_self _ ht0
  have hn0 : (0 : Int) < n := by omega
  clear hE hV hlen hmx hm
  go_enter Try.func4, Try.ntmps4
  go_wp2_with fail
  refine (check_any _ _).mono ?_
  rintro e w3 ⟨rfl, hb3⟩
  have B3 : Aside (Below w.heap.size w w3) := hb3
  clear hb3
  go_wp2
  clear d1 d2 d3 d4 d5
  go_loopw [7, 8] (fun s7 s8 wr => ∃ (k : Nat) (v : Value), k ≤ n ∧ s8 = .int .i64 k ∧ s7 = v ∧ Aside (wr.ownsRow w.heap.size 26 1 v k (List.replicate k (.int .u32 x))) ∧ Aside (Below w.heap.size w wr)) (fun _ i _ => n - (intOf i).toNat)
  case atStart => exact ⟨0, _, Nat.zero_le _, rfl, rfl, World.ownsRow_nil _ _ _ _, B3⟩
  case round =>
    clear B3
    obtain ⟨k, v, hk, rfl, rfl, O1, B1⟩ := hrel
    by_cases hlt : k < n
    · have hm1 := HMX.out k hlt
      have hm4 : (k + 1) * 4 ≤ 140737488355328 := by omega
      have hbs : w.heap.size ≤ wr.heap.size + 1 := Nat.le_succ_of_le B1.out.size
      go_wp2_with (at_builtin; refine wpList_append_row_at rfl _ _ 25 rfl w.heap.size 26 (.int .u32 0) 1 4 Try.underlying25 HI.out rfl (by decide) _ k _ rfl (World.ownsRow.alloc O1.out _) _ 1 1 [.int .u32 x] rfl (by simp) (row_new (by simp)) rfl (by simp [Value.oneCell']) hm1 hm4 (by simpa using hbs) ?_; intro v1 w3 ho1 hg1 hat1)
      have hg1' : (wr.alloc (.cells #[.int .u32 x] 26)).grownBy w3 u7.ownBlock := hg1
      have B3 : Aside (Below w.heap.size w w3) := (B1.out.alloc B1.out.size _).grown hg1' (by have := B1.out.size; simp; omega) (fun g e => (World.ownsRow.lt O1.out g e).1)
      have O3 : Aside (w3.ownsRow w.heap.size 26 1 v1 (k + 1) (List.replicate (k + 1) (.int .u32 x))) := by
        show World.ownsRow _ _ _ _ _ _ _
        rw [rep_succ]; exact ho1
      clear hg1 hg1' hat1 ho1 O1 B1
      go_roundw
      case measure => simp [intOf]; omega
      case rel => exact ⟨k + 1, v1, by omega, by go_num, rfl, O3, B3⟩
    · obtain rfl : k = n := by omega
      obtain ⟨a1, c1, hv, hr1, -⟩ := row_of_owns (show wr.ownsRow w.heap.size 26 1 u7 k _ from O1.out)
      have HR1 := hid (show Row wr a1 ((List.replicate k x).map (.int .u32)) by rw [List.map_replicate]; exact hr1)
      subst hv
      clear hr1 O1 hk hlt
      go_wp2_with fail
      refine (share_row t (List.replicate k x) a1 _ c1 wr (by simp) HR1.out HP.out (by simp; omega)).mono ?_
      rintro e w2 ⟨a3, c3, rfl, r3, hb3, m3⟩
      rw [HL.out, HE.out]
      rw [HV.out] at r3
      have R3 := hid r3
      have B2 : Aside (Below w.heap.size w w2) := bt B1.out hb3
      clear r3 hb3 HR1 B1 m3
      go_wp2
      go_loopw [11, 12] (fun s11 _ wr => ∃ j : Nat, j ≤ k ∧ s11 = .int .i64 j ∧ Aside (Below w2.heap.size w2 wr)) (fun i _ _ => k - (intOf i).toNat)
      case atStart => exact ⟨0, Nat.zero_le _, rfl, Below.refl _ _⟩
      case round =>
        obtain ⟨j, hj, rfl, hb⟩ := hrel
        by_cases hlt : j < k
        · obtain ⟨b1, o1, rfl, c1⟩ := (R3.out.kept hb.out).int j (by rw [shareL_len, List.length_replicate]; exact hlt)
          rw [equal_share t x k j hlt ht0 hx] at c1
          have p0 : (0 : Int) ≤ (j : Int) := by omega
          have p1 : (j : Int) < (k : Int) := by omega
          by_cases hr : (j : Int) < t % k
          · rw [if_pos hr] at c1
            go_wp2
            go_roundw
            case measure => simp [intOf]; omega
            case rel => exact ⟨j + 1, by omega, by go_num, hb⟩
          · rw [if_neg hr, Int.add_zero] at c1
            go_wp2
            go_roundw
            case measure => simp [intOf]; omega
            case rel => exact ⟨j + 1, by omega, by go_num, hb⟩
        · obtain rfl : j = k := by omega
          go_wp2_with fail
          refine (wakes6 _).mono ?_
          rintro e w4 ⟨rfl, k4⟩
          go_wp2
          go_ret
          exact ⟨rfl, bt (bt B2.out hb.out) k4⟩

theorem equal_walk (t x n : Int) (w : World) (_wt : (Lit.int .i64 t).wf = true) (wx : (Lit.int .u32 x).wf = true) (_wn : (Lit.int .i64 n).wf = true) :
    Calls Try.prog 4 #[.int .i64 t, .int .u32 x, .int .i64 n] w fun e w' => e = .returned (.bool true) ∧ Below w.heap.size w w' := by
  have hx := wf32 wx
  by_cases h : EqOk t x n
  · obtain ⟨h1, h2, h3, h4, h5⟩ := h
    obtain ⟨m, rfl⟩ := Int.eq_ofNat_of_zero_le (show 0 ≤ n by omega)
    exact equal_yes t x m w (by omega) (by omega) (by omega) hx.2 h4 h5
  · exact equal_no t x n w hx.1 h
end Go.Proofs.Ytijldpkchmpjkaa
