/- TicketWhole: the plain law: what is flown, given and kept of a ticket's coupons makes up its fare. -/
import Derived.Test.YtijldpkchmpjkaaBalPlain
import Derived.Test.YtijldpkchmpjkaaProWhole
namespace Go.Proofs.Ytijldpkchmpjkaa
open Go.RowKit Go.Lib Go.Tk

def whB (wl : List Bool) (i : Nat) : Bool := wl.getD i false
/-- the statuses, behind k of m rounds -/
def stAt (wl : List Bool) (k i : Nat) : Int := if i < k then (if whB wl i then 6 else 4) else 1
def stW (wl : List Bool) (m k : Nat) : List Int := (List.range m).map (stAt wl k)
theorem stW_len (wl : List Bool) (m k : Nat) : (stW wl m k).length = m := by simp [stW]
theorem stW_zero (wl : List Bool) (m : Nat) : stW wl m 0 = List.replicate m 1 := by
  unfold stW stAt
  refine List.ext_getElem (by simp) fun i h1 h2 => by simp
theorem stW_succ (wl : List Bool) {m k : Nat} (_h : k < m) : stW wl m (k + 1) = (stW wl m k).set k (if whB wl k then 6 else 4) := by
  unfold stW
  refine List.ext_getElem (by simp) fun i h1 h2 => ?_
  rw [List.getElem_set]
  simp only [List.getElem_map, List.getElem_range]
  unfold stAt
  by_cases he : k = i
  · subst he; simp
  · rw [if_neg he]
    by_cases hl : i < k
    · rw [if_pos (by omega), if_pos hl]
    · rw [if_neg (by omega), if_neg hl]

def gvAt (wl : List Bool) (vals : List Int) (p : Int) (i : Nat) : Int := if whB wl i then giveV (vals.getD i 0) p else 0
def gkAt (wl : List Bool) (vals : List Int) (p : Int) (i : Nat) : Int := if whB wl i then giveK (vals.getD i 0) p else 0
def flAt (wl : List Bool) (vals : List Int) (i : Nat) : Int := if whB wl i then 0 else vals.getD i 0
def backW (wl : List Bool) (vals : List Int) (p : Int) (k : Nat) : Int := ((List.range k).map (gvAt wl vals p)).sum
def keptW (wl : List Bool) (vals : List Int) (p : Int) (k : Nat) : Int := ((List.range k).map (gkAt wl vals p)).sum
def flownW (wl : List Bool) (vals : List Int) (k : Nat) : Int := ((List.range k).map (flAt wl vals)).sum
theorem backW_succ (wl : List Bool) (vals : List Int) (p : Int) (k : Nat) : backW wl vals p (k + 1) = backW wl vals p k + gvAt wl vals p k := by
  unfold backW; rw [List.range_succ, List.map_append, List.sum_append]; simp
theorem keptW_succ (wl : List Bool) (vals : List Int) (p : Int) (k : Nat) : keptW wl vals p (k + 1) = keptW wl vals p k + gkAt wl vals p k := by
  unfold keptW; rw [List.range_succ, List.map_append, List.sum_append]; simp
theorem flownW_succ (wl : List Bool) (vals : List Int) (k : Nat) : flownW wl vals (k + 1) = flownW wl vals k + flAt wl vals k := by
  unfold flownW; rw [List.range_succ, List.map_append, List.sum_append]; simp

theorem give_parts {v p : Int} (hv : 0 ≤ v) (hp : 0 ≤ p) : 0 ≤ giveV v p ∧ 0 ≤ giveK v p ∧ giveV v p + giveK v p = v ∧ giveK v p ≤ p := by
  unfold giveV giveK
  rw [if_neg (by omega), if_neg (by omega)]
  omega
theorem nn_getD {vals : List Int} (h : ∀ x ∈ vals, 0 ≤ x) (i : Nat) : 0 ≤ vals.getD i 0 := by
  rw [List.getD_eq_getElem?_getD]
  cases hq : vals[i]? with
  | none => simp
  | some x => exact h x (List.mem_of_getElem? hq)
theorem take_sum_succ (vals : List Int) (k : Nat) : (vals.take (k + 1)).sum = (vals.take k).sum + vals.getD k 0 := by
  by_cases h : k < vals.length
  · rw [List.take_succ_eq_append_getElem h, List.sum_append]; simp [List.getD_eq_getElem?_getD, h]
  · rw [List.take_of_length_le (by omega), List.take_of_length_le (by omega)]
    rw [List.getD_eq_getElem?_getD, List.getElem?_eq_none (by omega)]; simp
/-- what was given, kept, flown up to k makes up the first k values -/
theorem parts_at (wl : List Bool) {vals : List Int} {p : Int} (hv : ∀ x ∈ vals, 0 ≤ x) (hp : 0 ≤ p) : ∀ k, 0 ≤ backW wl vals p k ∧ 0 ≤ keptW wl vals p k ∧ 0 ≤ flownW wl vals k ∧ backW wl vals p k + keptW wl vals p k + flownW wl vals k = (vals.take k).sum
  | 0 => by simp [backW, keptW, flownW]
  | k + 1 => by
    obtain ⟨h1, h2, h3, h4⟩ := parts_at wl hv hp k
    obtain ⟨g1, g2, g3, -⟩ := give_parts (nn_getD hv k) hp
    have g0 := nn_getD hv k
    rw [backW_succ, keptW_succ, flownW_succ, take_sum_succ]
    unfold gvAt gkAt flAt
    split <;> refine ⟨?_, ?_, ?_, ?_⟩ <;> omega
theorem take_sum_leW {vals : List Int} (hv : ∀ x ∈ vals, 0 ≤ x) (k : Nat) : (vals.take k).sum ≤ vals.sum := by
  conv => rhs; rw [← List.take_append_drop k vals]
  rw [List.sum_append]
  have := sum_nonneg (vals.drop k) (fun x hx => hv x (List.mem_of_mem_drop hx))
  omega

theorem lessZ_sum (z : List (Int × Int)) : (lessZ z).sum = (z.map fun q => if q.1 ≤ 4 then q.2 else 0).sum := by
  induction z with
  | nil => rfl
  | cons q z ih =>
    unfold lessZ at ih ⊢
    by_cases h : q.1 ≤ 4
    · simp [h, ih]
    · simp [h, ih]
theorem vals_range (vals : List Int) : vals = (List.range vals.length).map (vals.getD · 0) := by
  refine List.ext_getElem (by simp) fun i h1 h2 => by simp [List.getD_eq_getElem?_getD, h1]
theorem zip_range (f g : Nat → Int) (m : Nat) : ((List.range m).map f).zip ((List.range m).map g) = (List.range m).map fun i => (f i, g i) := by
  refine List.ext_getElem (by simp) fun i h1 h2 => by simp
theorem less_sum_end (wl : List Bool) (vals : List Int) : (lessL vals (stW wl vals.length vals.length)).sum = flownW wl vals vals.length := by
  unfold lessL
  rw [lessZ_sum]
  conv => lhs; arg 1; arg 2; rw [vals_range vals]
  unfold stW
  simp only [List.length_map, List.length_range]
  rw [zip_range, List.map_map]
  unfold flownW
  congr 1
  refine List.map_congr_left fun i hi => ?_
  have := List.mem_range.1 hi
  simp only [Function.comp, stAt, if_pos this, flAt]
  split <;> simp
theorem less_sum_start (vals : List Int) : lessL vals (List.replicate vals.length 1) = vals := by
  unfold lessL
  have : ∀ l : List Int, lessZ ((List.replicate l.length 1).zip l) = l := by
    intro l
    induction l with
    | nil => rfl
    | cons x l ih =>
      unfold lessZ at ih ⊢
      simp only [List.length_cons, List.replicate_succ, List.zip_cons_cons]
      rw [List.filter_cons_of_pos (by simp), List.map_cons, ih]
  exact this vals

theorem subAll_down : ∀ (l : List Int) (x : Int), (∀ y ∈ l, 0 ≤ y) → l.sum ≤ x → x ≤ 1125899906842624 → subAll (x, 0) l = (x - l.sum, 0)
  | [], x, _, _, _ => by simp [subAll]
  | a :: l, x, h, hs, hx => by
    have ha := h a (by simp)
    have hl : ∀ y ∈ l, 0 ≤ y := fun y hy => h y (by simp [hy])
    have hn := sum_nonneg l hl
    rw [List.sum_cons] at hs
    have e : subStep (x, 0) a = (x - a, 0) := by
      unfold subStep subI
      have m1 : mayI x = true := by simp [mayI]; omega
      have m2 : mayI a = true := by simp [mayI]; omega
      have m3 : mayI (x - a) = true := by simp [mayI]; omega
      simp [m1, m2, m3]
    show subAll (subStep (x, 0) a) l = _
    rw [e, subAll_down l (x - a) hl (by omega) (by omega), List.sum_cons]
    congr 1
    omega
theorem bal_sum {d : DocV} {st : List Int} (hok : balOk d st d.vals.length) (hc : d.cred = 0) (hl : d.left = 0) (hp1 : d.paid ≤ 1125899906842624) (hb : 0 ≤ d.back) (hk : 0 ≤ d.kept) (hv : ∀ x ∈ d.vals, 0 ≤ x)
    (hs : d.back + d.kept + (lessL d.vals st).sum = d.paid) : balI d st d.vals.length = (0, 0) := by
  unfold balI
  rw [if_pos hok]
  have hn : ∀ y ∈ lessL d.vals st, 0 ≤ y := fun y hy => hv y (mem_less hy)
  have hp0 : 0 ≤ d.paid := by have := sum_nonneg _ hn; omega
  have e : sumFrom 0 [d.paid, d.cred] = (d.paid, 0) := by
    have m : mayI d.paid = true := by simp [mayI]; omega
    have m0 : mayI 0 = true := by decide
    rw [hc]
    simp [sumFrom, addI, m, m0]
  rw [e, subAll_down]
  · unfold lessAll
    rw [hl]
    simp only [List.cons_append, List.nil_append, List.sum_cons]
    congr 1
    omega
  · intro y hy
    unfold lessAll at hy
    rw [hl] at hy
    simp only [List.cons_append, List.nil_append, List.mem_cons] at hy
    rcases hy with rfl | rfl | rfl | h
    · exact hb
    · exact hk
    · exact Int.le_refl _
    · exact hn y h
  · unfold lessAll
    rw [hl]
    simp only [List.cons_append, List.nil_append, List.sum_cons]
    omega
  · exact hp1
theorem bad_stW (wl : List Bool) (m k : Nat) : badSt (stW wl m k) = false := by
  unfold badSt
  rw [List.any_eq_false]
  intro x hx
  obtain ⟨i, _, rfl⟩ := List.mem_map.1 hx
  unfold stAt
  split
  · split <;> decide
  · decide
/-- ahead: all coupons are open -/
theorem whole_start {d : DocV} (hc : d.cred = 0) (hl : d.left = 0) (hp1 : d.paid ≤ 1125899906842624) (hb : d.back = 0) (hk : d.kept = 0) (hv : ∀ x ∈ d.vals, 0 ≤ x) (hs : d.vals.sum = d.paid) :
    balI d (List.replicate d.vals.length 1) d.vals.length = (0, 0) := by
  refine bal_sum ⟨by simp, rfl, ?_⟩ hc hl hp1 (by omega) (by omega) hv (by rw [less_sum_start]; omega)
  rw [← stW_zero []]; exact bad_stW _ _ _
/-- behind: some were paid back -/
theorem whole_end {d : DocV} (wl : List Bool) {p : Int} (h0 : 0 ≤ p) (hc : d.cred = 0) (hl : d.left = 0) (hp1 : d.paid ≤ 1125899906842624) (hv : ∀ x ∈ d.vals, 0 ≤ x) (hs : d.vals.sum = d.paid)
    (hb : d.back = backW wl d.vals p d.vals.length) (hk : d.kept = keptW wl d.vals p d.vals.length) :
    balI d (stW wl d.vals.length d.vals.length) d.vals.length = (0, 0) := by
  obtain ⟨q1, q2, q3, q4⟩ := parts_at wl hv h0 d.vals.length
  rw [List.take_length] at q4
  exact bal_sum ⟨stW_len _ _ _, rfl, bad_stW _ _ _⟩ hc hl hp1 (by omega) (by omega) hv (by rw [less_sum_end]; omega)
end Go.Proofs.Ytijldpkchmpjkaa
