/- PRORATE, plain: ranges sorted, exchanged, turned. -/
import Derived.Sort.Lot0
import Derived.Test.YtdnaegleifhmgaaGreatMb6a2934
namespace Go.Tk
open Go.Sort
abbrev RA := Array (Int × Nat)
def Srt (d : RA) (a b : Nat) : Prop := ∀ i j, a ≤ i → i < j → j < b → lt2 d[i]! d[j]!
def Crs (d : RA) (a m b : Nat) : Prop := ∀ i j, a ≤ i → i < m → m ≤ j → j < b → d[i]!.2 < d[j]!.2
theorem lt2_le {x y : Int × Nat} (h : lt2 x y) : y.1 ≤ x.1 := by unfold lt2 at h; omega
theorem lt2_idx {x y : Int × Nat} (h : y.1 ≤ x.1) (hi : x.2 < y.2) : lt2 x y := by unfold lt2; omega
theorem Srt.le {d : RA} {a b : Nat} (h : Srt d a b) {i j : Nat} (ha : a ≤ i) (hij : i ≤ j) (hj : j < b) : d[j]!.1 ≤ d[i]!.1 := by
  rcases Nat.lt_or_ge i j with k | k
  · exact lt2_le (h i j ha k hj)
  · have : i = j := by omega
    subst this; exact Int.le_refl _
theorem Srt.one (d : RA) (a b : Nat) (h : b ≤ a + 1) : Srt d a b := fun i j _ _ _ => by omega
theorem perm_mem {d d' : RA} {a b : Nat} (hb : b ≤ d.size) (h : PermIn a b d d') {i : Nat} (ha : a ≤ i) (hi : i < b) : ∃ k, a ≤ k ∧ k < b ∧ d'[i]! = d[k]! :=
  permIn_all d d' a b (fun x => ∃ k, a ≤ k ∧ k < b ∧ x = d[k]!) hb h (fun k h1 h2 => ⟨k, h1, h2, rfl⟩) i ha hi
def swapR (d : RA) (a b : Nat) : Nat → RA
  | 0 => d
  | n + 1 => swp (swapR d a b n) (a + n) (b + n)
theorem size_swapR (d : RA) (a b : Nat) : ∀ n, (swapR d a b n).size = d.size
  | 0 => rfl
  | n + 1 => by unfold swapR; rw [size_swp]; exact size_swapR d a b n
theorem swapR_get (d : RA) (a b : Nat) : ∀ n, a + n ≤ b → b + n ≤ d.size → ∀ t, (swapR d a b n)[t]! = if a ≤ t ∧ t < a + n then d[b + (t - a)]! else if b ≤ t ∧ t < b + n then d[a + (t - b)]! else d[t]!
  | 0, _, _, t => by
    rw [if_neg (by omega), if_neg (by omega)]; rfl
  | n + 1, h, hb, t => by
    have ih := swapR_get d a b n (by omega) (by omega)
    have hs := size_swapR d a b n
    unfold swapR
    rcases Decidable.em (t = a + n) with e | e
    · subst e
      rw [swp_left _ _ _ (by omega) (by omega), ih, if_neg (by omega), if_neg (by omega), if_pos (by omega)]
      congr 1; omega
    · rcases Decidable.em (t = b + n) with e2 | e2
      · subst e2
        rw [swp_right _ _ _ (by omega), ih, if_neg (by omega), if_neg (by omega), if_neg (by omega), if_pos (by omega)]
        congr 1; omega
      · rw [swp_other _ _ _ _ e e2, ih]
        rcases Decidable.em (a ≤ t ∧ t < a + n) with k | k
        · rw [if_pos k, if_pos (by omega)]
        · rcases Decidable.em (b ≤ t ∧ t < b + n) with k2 | k2
          · rw [if_neg k, if_pos k2, if_neg (by omega), if_pos (by omega)]
          · rw [if_neg k, if_neg k2, if_neg (by omega), if_neg (by omega)]
theorem swapR_perm (d : RA) (a b A B : Nat) (hA : A ≤ a) (hab : a ≤ b) (hB : B ≤ d.size) : ∀ n, b + n ≤ B → PermIn A B d (swapR d a b n)
  | 0, _ => permIn_refl d A B
  | n + 1, h => by
    unfold swapR
    exact permIn_trans _ _ _ _ _ (swapR_perm d a b A B hA hab hB n (by omega)) (swp_permIn _ A B (a + n) (b + n) (by omega) (by omega) (by omega) (by omega) (by rw [size_swapR]; exact hB))
structure IsRot (d d' : RA) (a m b : Nat) : Prop where
  lo : ∀ t, t < a → d'[t]! = d[t]!
  one : ∀ t, t + m < b → d'[a + t]! = d[m + t]!
  two : ∀ t, a + t < m → d'[a + (b - m) + t]! = d[a + t]!
  hi : ∀ t, b ≤ t → d'[t]! = d[t]!
theorem IsRot.none {d : RA} {a m b : Nat} (h : a = m ∨ m = b) : IsRot d d a m b where
  lo := fun _ _ => rfl
  one := fun t ht => by
    rcases h with h | h
    · subst h; rfl
    · omega
  two := fun t ht => by
    rcases h with h | h
    · omega
    · subst h; rw [Nat.sub_self, Nat.add_zero]
  hi := fun _ _ => rfl
theorem IsRot.eq {d : RA} {a m b : Nat} (ham : a ≤ m) (hmb : m ≤ b) (h : m - a = b - m) (hb : b ≤ d.size) : IsRot d (swapR d a m (m - a)) a m b := by
  have g := swapR_get d a m (m - a) (by omega) (by omega)
  refine ⟨fun t ht => ?_, fun t ht => ?_, fun t ht => ?_, fun t ht => ?_⟩
  · rw [g, if_neg (by omega), if_neg (by omega)]
  · rw [g, if_pos (by omega)]; congr 1; omega
  · rw [g, if_neg (by omega), if_pos (by omega)]; congr 1; omega
  · rw [g, if_neg (by omega), if_neg (by omega)]
theorem IsRot.left {d d' : RA} {a m b : Nat} (ham : a ≤ m) (hmb : m ≤ b) (h : b - m < m - a) (hb : b ≤ d.size) (hr : IsRot (swapR d a m (b - m)) d' (a + (b - m)) m b) : IsRot d d' a m b := by
  have g := swapR_get d a m (b - m) (by omega) (by omega)
  obtain ⟨lo, one, two, hi⟩ := hr
  refine ⟨fun t ht => ?_, fun t ht => ?_, fun t ht => ?_, fun t ht => ?_⟩
  · rw [lo t (by omega), g, if_neg (by omega), if_neg (by omega)]
  · rw [lo (a + t) (by omega), g, if_pos (by omega)]; congr 1; omega
  · rcases Nat.lt_or_ge t (b - m) with k | k
    · rw [one t (by omega), g, if_neg (by omega), if_pos (by omega)]; congr 1; omega
    · have := two (t - (b - m)) (by omega)
      rw [show a + (b - m) + (b - m) + (t - (b - m)) = a + (b - m) + t by omega] at this
      rw [this, g, if_neg (by omega), if_neg (by omega)]; congr 1; omega
  · rw [hi t ht, g, if_neg (by omega), if_neg (by omega)]
theorem IsRot.right {d d' : RA} {a m b : Nat} (ham : a ≤ m) (hmb : m ≤ b) (h : m - a < b - m) (hb : b ≤ d.size) (hr : IsRot (swapR d a (b - (m - a)) (m - a)) d' a m (b - (m - a))) : IsRot d d' a m b := by
  have g := swapR_get d a (b - (m - a)) (m - a) (by omega) (by omega)
  obtain ⟨lo, one, two, hi⟩ := hr
  refine ⟨fun t ht => ?_, fun t ht => ?_, fun t ht => ?_, fun t ht => ?_⟩
  · rw [lo t (by omega), g, if_neg (by omega), if_neg (by omega)]
  · rcases Nat.lt_or_ge (t + m) (b - (m - a)) with k | k
    · rw [one t (by omega), g, if_neg (by omega), if_neg (by omega)]
    · have := two (t + m - (b - (m - a))) (by omega)
      rw [show a + (b - (m - a) - m) + (t + m - (b - (m - a))) = a + t by omega] at this
      rw [this, g, if_pos (by omega)]; congr 1; omega
  · rw [hi _ (by omega), g, if_neg (by omega), if_pos (by omega)]; congr 1; omega
  · rw [hi t (by omega), g, if_neg (by omega), if_neg (by omega)]
def shiftU (d : RA) (a : Nat) : Nat → RA
  | 0 => d
  | n + 1 => swp (shiftU d a n) (a + n) (a + n + 1)
theorem size_shiftU (d : RA) (a : Nat) : ∀ n, (shiftU d a n).size = d.size
  | 0 => rfl
  | n + 1 => by unfold shiftU; rw [size_swp]; exact size_shiftU d a n
theorem shiftU_get (d : RA) (a : Nat) : ∀ n, a + n < d.size → ∀ t, (shiftU d a n)[t]! = if a ≤ t ∧ t < a + n then d[t + 1]! else if t = a + n then d[a]! else d[t]!
  | 0, _, t => by
    rw [if_neg (by omega)]
    rcases Decidable.em (t = a + 0) with e | e
    · rw [if_pos e, e]; rfl
    · rw [if_neg e]; rfl
  | n + 1, h, t => by
    have ih := shiftU_get d a n (by omega)
    have hs := size_shiftU d a n
    unfold shiftU
    rcases Decidable.em (t = a + n) with e | e
    · subst e
      rw [swp_left _ _ _ (by omega) (by omega), ih, if_neg (by omega), if_neg (by omega), if_pos (by omega)]
    · rcases Decidable.em (t = a + n + 1) with e2 | e2
      · subst e2
        rw [swp_right _ _ _ (by omega), ih, if_neg (by omega), if_pos rfl, if_neg (by omega), if_pos (by omega)]
      · rw [swp_other _ _ _ _ e e2, ih]
        rcases Decidable.em (a ≤ t ∧ t < a + n) with k | k
        · rw [if_pos k, if_pos (by omega)]
        · rw [if_neg k, if_neg e, if_neg (by omega), if_neg (by omega)]
theorem shiftU_perm (d : RA) (a A B : Nat) (hA : A ≤ a) (hB : B ≤ d.size) : ∀ n, a + n < B → PermIn A B d (shiftU d a n)
  | 0, _ => permIn_refl d A B
  | n + 1, h => by
    unfold shiftU
    exact permIn_trans _ _ _ _ _ (shiftU_perm d a A B hA hB n (by omega)) (swp_permIn _ A B (a + n) (a + n + 1) (by omega) (by omega) (by omega) (by omega) (by rw [size_shiftU]; exact hB))
def shiftD (d : RA) (m : Nat) : Nat → RA
  | 0 => d
  | n + 1 => swp (shiftD d m n) (m - n) (m - n - 1)
theorem size_shiftD (d : RA) (m : Nat) : ∀ n, (shiftD d m n).size = d.size
  | 0 => rfl
  | n + 1 => by unfold shiftD; rw [size_swp]; exact size_shiftD d m n
theorem shiftD_get (d : RA) (m : Nat) (hm : m < d.size) : ∀ n, n ≤ m → ∀ t, (shiftD d m n)[t]! = if m < t + n ∧ t ≤ m then d[t - 1]! else if t + n = m then d[m]! else d[t]!
  | 0, _, t => by
    rw [if_neg (by omega)]
    rcases Decidable.em (t + 0 = m) with e | e
    · rw [if_pos e, ← e]; rfl
    · rw [if_neg e]; rfl
  | n + 1, h, t => by
    have ih := shiftD_get d m hm n (by omega)
    have hs := size_shiftD d m n
    unfold shiftD
    rcases Decidable.em (t = m - n) with e | e
    · subst e
      rw [swp_left _ _ _ (by omega) (by omega), ih, if_neg (by omega), if_neg (by omega), if_pos (by omega)]
    · rcases Decidable.em (t = m - n - 1) with e2 | e2
      · subst e2
        rw [swp_right _ _ _ (by omega), ih, if_neg (by omega), if_pos (by omega), if_neg (by omega), if_pos (by omega)]
      · rw [swp_other _ _ _ _ e e2, ih]
        rcases Decidable.em (m < t + n ∧ t ≤ m) with k | k
        · rw [if_pos k, if_pos (by omega)]
        · rw [if_neg k, if_neg (by omega), if_neg (by omega), if_neg (by omega)]
theorem shiftD_perm (d : RA) (m A B : Nat) (hm : m < B) (hB : B ≤ d.size) : ∀ n, A + n ≤ m → PermIn A B d (shiftD d m n)
  | 0, _ => permIn_refl d A B
  | n + 1, h => by
    unfold shiftD
    exact permIn_trans _ _ _ _ _ (shiftD_perm d m A B hm hB n (by omega)) (swp_permIn _ A B (m - n) (m - n - 1) (by omega) (by omega) (by omega) (by omega) (by rw [size_shiftD]; exact hB))
theorem up_sorted {d : RA} {a b i : Nat} (hR : Srt d (a + 1) b) (hC : Crs d a (a + 1) b) (hi : a + 1 ≤ i) (hib : i ≤ b) (hb : b ≤ d.size)
    (h1 : ∀ h, a + 1 ≤ h → h < i → d[a]!.1 < d[h]!.1) (h2 : ∀ h, i ≤ h → h < b → ¬ d[a]!.1 < d[h]!.1) : Srt (shiftU d a (i - 1 - a)) a b := by
  have g := shiftU_get d a (i - 1 - a) (by omega)
  intro p q hp hpq hq
  rw [g p, g q]
  rcases Nat.lt_trichotomy p (i - 1) with k | k | k
  · rw [if_pos (by omega)]
    rcases Nat.lt_trichotomy q (i - 1) with l | l | l
    · rw [if_pos (by omega)]; exact hR _ _ (by omega) (by omega) (by omega)
    · rw [if_neg (by omega), if_pos (by omega)]; exact .inl (h1 _ (by omega) (by omega))
    · rw [if_neg (by omega), if_neg (by omega)]; exact hR _ _ (by omega) (by omega) (by omega)
  · rw [if_neg (by omega), if_pos (by omega), if_neg (by omega), if_neg (by omega)]
    exact lt2_idx (by have := h2 q (by omega) hq; omega) (hC a q (by omega) (by omega) (by omega) hq)
  · rw [if_neg (by omega), if_neg (by omega), if_neg (by omega), if_neg (by omega)]; exact hR _ _ (by omega) hpq hq
theorem down_sorted {d : RA} {a m i : Nat} (hL : Srt d a m) (hC : Crs d a m (m + 1)) (hi : a ≤ i) (him : i ≤ m) (hb : m < d.size)
    (h1 : ∀ h, a ≤ h → h < i → ¬ d[h]!.1 < d[m]!.1) (h2 : ∀ h, i ≤ h → h < m → d[h]!.1 < d[m]!.1) : Srt (shiftD d m (m - i)) a (m + 1) := by
  have g := shiftD_get d m hb (m - i) (by omega)
  intro p q hp hpq hq
  rw [g p, g q]
  rcases Nat.lt_trichotomy p i with k | k | k
  · rcases Nat.lt_trichotomy q i with l | l | l
    · rw [if_neg (by omega), if_neg (by omega), if_neg (by omega), if_neg (by omega)]; exact hL _ _ (by omega) (by omega) (by omega)
    · rw [if_neg (by omega), if_neg (by omega), if_neg (by omega), if_pos (by omega)]
      exact lt2_idx (by have := h1 p hp k; omega) (hC p m hp (by omega) (by omega) (by omega))
    · rw [if_neg (by omega), if_neg (by omega), if_pos (by omega)]; exact hL _ _ (by omega) (by omega) (by omega)
  · rw [if_neg (by omega), if_pos (by omega), if_pos (by omega)]
    exact .inl (h2 _ (by omega) (by omega))
  · rw [if_pos (by omega), if_pos (by omega)]; exact hL _ _ (by omega) (by omega) (by omega)
structure Cut (d : RA) (mid m s s0 r0 : Nat) : Prop where
  lo : s0 ≤ s
  hi : s ≤ r0
  no : ∀ c, s0 ≤ c → c < s → ¬ d[c]!.1 < d[mid + m - 1 - c]!.1
  yes : ∀ c, s ≤ c → c < r0 → d[c]!.1 < d[mid + m - 1 - c]!.1
structure Mid (a m b mid s0 r0 : Nat) : Prop where
  m1 : 2 * mid ≤ a + b
  m2 : a + b ≤ 2 * mid + 1
  at' : (mid < m ∧ s0 = mid + m - b ∧ r0 = mid) ∨ (m ≤ mid ∧ s0 = a ∧ r0 = m)
theorem cut_at {a m b mid s0 r0 : Nat} (ham : a < m) (hmb : m < b) (h : Mid a m b mid s0 r0) :
    a ≤ s0 ∧ s0 ≤ r0 ∧ r0 ≤ m ∧ r0 ≤ mid ∧ (∀ c, s0 ≤ c → c < r0 → m ≤ mid + m - 1 - c ∧ mid + m - 1 - c < b) ∧ mid + m - s0 ≤ b ∧ (s0 = a ∨ mid + m - s0 = b) ∧ (r0 = m ∨ mid + m - r0 = m) := by
  obtain ⟨m1, m2, h0⟩ := h
  rcases h0 with ⟨h1, rfl, rfl⟩ | ⟨h1, rfl, rfl⟩
  · refine ⟨by omega, by omega, by omega, by omega, fun c _ _ => by omega, by omega, by omega, by omega⟩
  · refine ⟨by omega, by omega, by omega, by omega, fun c _ _ => by omega, by omega, by omega, by omega⟩
theorem cut_parts {d d1 : RA} {a m b mid s s0 r0 e : Nat} (ham : a < m) (hmb : m < b) (hL : Srt d a m) (hR : Srt d m b) (hC : Crs d a m b)
    (h0 : Mid a m b mid s0 r0) (hc : Cut d mid m s s0 r0) (he : e = mid + m - s) (hr : IsRot d d1 s m e) :
    Srt d1 a s ∧ Srt d1 s mid ∧ Crs d1 a s mid ∧ Srt d1 mid e ∧ Srt d1 e b ∧ Crs d1 mid e b ∧
      (∀ i j, a ≤ i → i < mid → mid ≤ j → j < b → lt2 d1[i]! d1[j]!) := by
  obtain ⟨c1, c2, c3, c4, c5, c6, c7, c8⟩ := cut_at ham hmb h0
  obtain ⟨lo, hi, no, yes⟩ := hc
  obtain ⟨hm1, hm2, _⟩ := h0
  obtain ⟨q1, q2, q3, q4⟩ := hr
  have A : ∀ t, a ≤ t → t < s → d1[t]! = d[t]! := fun t _ h => q1 t h
  have B : ∀ t, s ≤ t → t < mid → d1[t]! = d[t - s + m]! := fun t h h' => by
    have := q2 (t - s) (by omega)
    rw [show s + (t - s) = t by omega, show m + (t - s) = t - s + m by omega] at this; exact this
  have C : ∀ t, mid ≤ t → t < e → d1[t]! = d[t - mid + s]! := fun t h h' => by
    have := q3 (t - mid) (by omega)
    rw [show s + (e - m) + (t - mid) = t by omega, show s + (t - mid) = t - mid + s by omega] at this; exact this
  have D : ∀ t, e ≤ t → t < b → d1[t]! = d[t]! := fun t h _ => q4 t h
  clear q1 q2 q3 q4
  have hes : s ≤ mid := by omega
  have hem : mid ≤ e := by omega
  have heb : e ≤ b := by omega
  refine ⟨fun i j hi hij hj => ?_, fun i j hi hij hj => ?_, fun i j hi his hj hj' => ?_, fun i j hi hij hj => ?_, fun i j hi hij hj => ?_, fun i j hi his hj hj' => ?_, fun i j hi his hj hj' => ?_⟩
  · rw [A i hi (by omega), A j (by omega) hj]; exact hL i j hi hij (by omega)
  · rw [B i hi (by omega), B j (by omega) hj]; exact hR _ _ (by omega) (by omega) (by omega)
  · rw [A i hi his, B j hj hj']; exact hC _ _ hi (by omega) (by omega) (by omega)
  · rw [C i hi (by omega), C j (by omega) hj]; exact hL _ _ (by omega) (by omega) (by omega)
  · rw [D i hi (by omega), D j (by omega) hj]; exact hR _ _ (by omega) (by omega) (by omega)
  · rw [C i hi his, D j hj hj']; exact hC _ _ (by omega) (by omega) (by omega) (by omega)
  · rcases Nat.lt_or_ge i s with k | k
    · rw [A i hi k]
      rcases Nat.lt_or_ge j e with l | l
      · rw [C j hj l]; exact hL _ _ hi (by omega) (by omega)
      · rw [D j l hj']
        have n1 := no (s - 1) (by omega) (by omega)
        rw [show mid + m - 1 - (s - 1) = e by omega] at n1
        have n2 := hL.le (i := i) (j := s - 1) hi (by omega) (by omega)
        have n3 := hR.le (i := e) (j := j) (by omega) l hj'
        exact lt2_idx (by omega) (hC _ _ hi (by omega) (by omega) hj')
    · rw [B i k his]
      rcases Nat.lt_or_ge j e with l | l
      · rw [C j hj l]
        have n1 := yes s (by omega) (by omega)
        rw [show mid + m - 1 - s = e - 1 by omega] at n1
        have n2 := hR.le (i := i - s + m) (j := e - 1) (by omega) (by omega) (by omega)
        have n3 := hL.le (i := s) (j := j - mid + s) (by omega) (by omega) (by omega)
        exact .inl (by omega)
      · rw [D j l hj']; exact hR _ _ (by omega) (by omega) hj'
theorem join_sorted {d1 d2 d3 : RA} {a mid b : Nat} (hb : b ≤ d1.size) (hX : ∀ i j, a ≤ i → i < mid → mid ≤ j → j < b → lt2 d1[i]! d1[j]!)
    (p2 : PermIn a mid d1 d2) (s2 : Srt d2 a mid) (p3 : PermIn mid b d2 d3) (s3 : Srt d3 mid b) : Srt d3 a b := by
  intro i j hi hij hj
  rcases Nat.lt_or_ge j mid with k | k
  · rw [p3.2.1 i (.inl (by omega)), p3.2.1 j (.inl k)]; exact s2 i j hi hij k
  · rcases Nat.lt_or_ge i mid with l | l
    · rw [p3.2.1 i (.inl l)]
      obtain ⟨i', h1, h2, e1⟩ := perm_mem (by omega) p2 hi l
      obtain ⟨j', h3, h4, e2⟩ := perm_mem (by rw [p2.1]; exact hb) p3 k hj
      rw [e1, e2, p2.2.1 j' (.inr h3)]
      exact hX i' j' h1 h2 h3 h4
    · exact s3 i j l hij hj
end Go.Tk
