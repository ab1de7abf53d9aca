/- MoneyOrder: the sum hangs on no order. -/
import Derived.Test.YtijldpkchmpjkaaMoney7
import Derived.BigRegion
import Derived.Deep.DeepCutAuto
namespace Go.Proofs.Ytijldpkchmpjkaa
open Go.RowKit Go.Lib Go.Tk

theorem sumFrom_nn : ∀ (xs : List Int) (s : Int), mayI s = true → 0 ≤ s → (∀ x ∈ xs, 0 ≤ x) → sumFrom s xs = if mayI (s + xs.sum) then (s + xs.sum, 0) else (0, 7)
  | [], s, hs, _, _ => by simp [sumFrom, hs]
  | x :: r, s, hs, h0, hx => by
    have hx0 := hx x (by simp)
    have hr : ∀ y ∈ r, 0 ≤ y := fun y hy => hx y (by simp [hy])
    have hrs : 0 ≤ r.sum := by
      clear hx
      induction r with
      | nil => simp
      | cons y t ih => have := hr y (by simp); have := ih (fun z hz => hr z (by simp [hz])); simp; omega
    rw [sumFrom]
    have e : s + (x :: r).sum = s + x + r.sum := by simp; omega
    rw [e]
    obtain ⟨s1, s2⟩ := mayI_of hs
    rcases addI_cases s x with ⟨h, _, m2, m3, h1⟩ | ⟨h, h1, hno⟩
    · rw [if_pos h, h1, sumFrom_nn r (s + x) m3 (by omega) hr]
    · rw [if_neg (by rw [h]; decide)]
      have : mayI (s + x + r.sum) = false := by
        rw [← Bool.not_eq_true]; intro hm
        obtain ⟨q1, q2⟩ := mayI_of hm
        have a1 : mayI x = true := by simp [mayI]; omega
        have a2 : mayI (s + x) = true := by simp [mayI]; omega
        rw [hs, a1, a2] at hno; cases hno
      rw [this]; rfl

theorem sum_set : ∀ (xs : List Int) (i : Nat) (v : Int), i < xs.length → (xs.set i v).sum = xs.sum - xs.getD i 0 + v
  | [], _, _, h => by simp at h
  | x :: r, 0, v, _ => by simp; omega
  | x :: r, i + 1, v, h => by
    have := sum_set r i v (by simpa using h)
    simp at this ⊢; omega

/-- two places change places -/
def swapL (xs : List Int) (i j : Nat) : List Int := (xs.set i (xs.getD j 0)).set j (xs.getD i 0)

theorem swap_sum (xs : List Int) (i j : Nat) (hi : i < xs.length) (hj : j < xs.length) : (swapL xs i j).sum = xs.sum := by
  unfold swapL
  rw [sum_set _ _ _ (by simpa using hj), sum_set _ _ _ hi]
  have : (xs.set i (xs.getD j 0)).getD j 0 = xs.getD j 0 := by
    simp only [List.getD_eq_getElem?_getD, List.getElem?_set, hi, if_true]
    split
    · simp
    · rfl
  rw [this]; omega

theorem swap_nn {xs : List Int} (h : ∀ x ∈ xs, 0 ≤ x) (i j : Nat) : ∀ x ∈ swapL xs i j, 0 ≤ x := by
  have g : ∀ k, 0 ≤ xs.getD k 0 := by
    intro k
    rw [List.getD_eq_getElem?_getD]
    cases hk : xs[k]? with
    | none => simp
    | some y => exact h y (List.mem_of_getElem? hk)
  intro x hx
  unfold swapL at hx
  rcases List.mem_or_eq_of_mem_set hx with hx | rfl
  · rcases List.mem_or_eq_of_mem_set hx with hx | rfl
    · exact h x hx
    · exact g j
  · exact g i

theorem swap_same {xs : List Int} (h : ∀ x ∈ xs, 0 ≤ x) {i j : Nat} (hi : i < xs.length) (hj : j < xs.length) : sumFrom 0 (swapL xs i j) = sumFrom 0 xs := by
  rw [sumFrom_nn _ 0 (by decide) (by omega) h, sumFrom_nn _ 0 (by decide) (by omega) (swap_nn h i j), swap_sum xs i j hi hj]

theorem place_of (i : Int) (n : Nat) (hn : 0 < n) : ∃ A : Nat, A < n ∧ (i.tmod n < 0 → i.tmod n + n = A) ∧ (¬ i.tmod n < 0 → i.tmod n = A) ∧ -(n : Int) < i.tmod n ∧ i.tmod n < n := by
  have h2 : i.tmod n < n := Int.tmod_lt_of_pos _ (by omega)
  have h1 : -(n : Int) < i.tmod n := by
    have := Int.tmod_lt_of_pos (-i) (b := (n : Int)) (by omega)
    rw [Int.neg_tmod] at this; omega
  by_cases h : i.tmod n < 0
  · exact ⟨(i.tmod n + n).toNat, by omega, fun _ => by omega, fun h' => absurd h h', h1, h2⟩
  · exact ⟨(i.tmod n).toNat, by omega, fun h' => absurd h' h, fun _ => by omega, h1, h2⟩

theorem row_swap {w : World} {k : IntKind} {g : Nat} {xs : List Int} {A B : Nat} (hr : Row w (some ⟨g, 0, none⟩) (xs.map (.int k))) (hA : A < xs.length) (hB : B < xs.length) :
    Row ((w.setCell ⟨g, A, none⟩ (.int k (xs.getD B 0))).setCell ⟨g, B, none⟩ (.int k (xs.getD A 0))) (some ⟨g, 0, none⟩) ((swapL xs A B).map (.int k)) := by
  intro i hi
  have hi' : i < xs.length := by simpa [swapL] using hi
  refine ⟨g, 0, rfl, ?_⟩
  obtain ⟨b, off, hb, hc⟩ := hr.int i hi'
  cases hb
  simp only [Nat.zero_add] at hc ⊢
  have hcell : ∀ (w : World) (p : Nat) (v x : Value) (q : Nat), w.cell? ⟨g, q, none⟩ = some v → (w.setCell ⟨g, p, none⟩ x).cell? ⟨g, q, none⟩ = some (if q = p then x else v) := by
    intro w p v x q h
    unfold World.cell? World.setCell at *
    simp only [Array.getElem?_modify, if_true] at h ⊢
    cases hb : w.heap[g]? with
    | none => simp [hb] at h
    | some o =>
      cases o with
      | cells c e f =>
        simp only [hb, Option.isSome_none, Bool.false_eq_true, if_false] at h ⊢
        simp only [Option.map_some, Array.getElem?_setIfInBounds]
        have hq : q < c.size := by
          rcases Nat.lt_or_ge q c.size with h1 | h1
          · exact h1
          · simp [Array.getElem?_eq_none h1] at h
        by_cases hpq : q = p
        · subst hpq; simp [hq]
        · simp [hpq, Ne.symm hpq, h]
      | _ => simp [hb] at h
  rw [hcell _ _ _ _ _ (hcell _ _ _ _ _ hc)]
  congr 1
  unfold swapL
  simp only [List.getD_eq_getElem?_getD, List.getElem?_map, List.getElem?_set, List.length_set]
  by_cases h1 : i = B
  · subst h1; simp [hi']
  · by_cases h2 : i = A
    · subst h2; simp [h1, Ne.symm h1, hi']
    · simp [h1, h2, Ne.symm h1, Ne.symm h2, hi']

theorem sum_anyN (a : Option Addr) (n cap : Nat) (xs : List Int) (w : World) (hn : xs.length = n) (hr : Row w a (xs.map (.int .i64))) (hm : xs.length ≤ 9223372036854775807) :
    Calls Try.prog 19 #[.slice a n cap] w fun e w' => e = .returned (.tuple #[.int .i64 (sumFrom 0 xs).1, .int .i64 (sumFrom 0 xs).2]) ∧ Below w.heap.size w w' := by
  subst hn; exact sum_any a cap xs w hr hm

/-- the state of adding one by one -/
def AddAt (xs : List Int) (n : Nat) (s g : Int) : Prop := (g = 0 ∧ sumFrom 0 xs = sumFrom s (xs.drop n)) ∨ (g = 7 ∧ s = 0 ∧ sumFrom 0 xs = (0, 7))

theorem i64rowB : (Try.prog.info? 2).map (fun i => (i.zero, i.size, i.bytes)) = some (some (.int .i64 0), 1, 8) := by kernel_rfl

end Go.Proofs.Ytijldpkchmpjkaa
