/- SymPlain2, SW1, SW2, SW3, SW4. -/
import Derived.Sort.LotA
import Derived.Sort.WalkA
import Derived.Shelf.SlSortCmp.Insertion
import Derived.Test.YtmhbpifhpolghaaGreatM3e71795
import Derived.Test.YtmhbpifhpolghaaGreatRows
import Derived.BigRegion
import Derived.Deep.LoopGhost
import Derived.Shelf.SlSortCmp.KitK
import Derived.Lib.SlicesSearch
import Derived.Lib.Walk
set_option maxRecDepth 100000
set_option linter.unusedVariables false
set_option linter.unusedSimpArgs false
set_option linter.unusedSectionVars false
section
namespace Go.Tk
open Go.Sort Go.Proofs
def cmpI (a b : Int) : Int := if a < b then -1 else if b < a then 1 else 0
theorem cmpI_neg (a b : Int) : (cmpI a b < 0) ↔ a < b := by
  unfold cmpI
  by_cases h : a < b
  · simp [h]
  · by_cases k : b < a
    · simp [h, k]
    · simp [h, k]
def cfR (x y : Int × Nat) : Int := cmpI y.1 x.1
theorem cfR_neg (x y : Int × Nat) : (cfR x y < 0) ↔ y.1 < x.1 := cmpI_neg _ _
def ltR (x y : Int × Nat) : Bool := decide (cfR x y < 0)
def lt2b (x y : Int × Nat) : Bool := decide (lt2 x y)
theorem ltR_lt2b {x y : Int × Nat} (h : y.2 < x.2) : ltR x y = lt2b x y := by
  unfold ltR lt2b
  congr 1
  rw [cfR_neg]
  apply propext
  unfold lt2
  omega
theorem insInner_perm (lt : (Int × Nat) → (Int × Nat) → Bool) (a : Nat) : ∀ (j : Nat) (d : RA), j < d.size → PermIn a (j + 1) d (insInner lt a j d)
  | 0, d, _ => by unfold insInner; exact permIn_refl _ _ _
  | j + 1, d, h => by
    unfold insInner
    split
    · rename_i k
      have k1 : a < j + 1 := by simp at k; omega
      have p := insInner_perm lt a j (swp d (j + 1) j) (by rw [size_swp]; omega)
      have s := swp_permIn d a (j + 1 + 1) (j + 1) j (by omega) (by omega) (by omega) (by omega) (by omega)
      exact permIn_trans _ _ _ _ _ s (permIn_mono _ _ a (j + 1) a (j + 1 + 1) (Nat.le_refl _) (by omega) (by rw [size_swp]; omega) p)
    · exact permIn_refl _ _ _
theorem insInner_congr (a : Nat) : ∀ (j : Nat) (d : RA), j < d.size → (∀ k, a ≤ k → k < j → d[k]!.2 < d[j]!.2) → insInner ltR a j d = insInner lt2b a j d
  | 0, d, _, _ => by unfold insInner; rfl
  | j + 1, d, h, hk => by
    unfold insInner
    rcases Nat.lt_or_ge a (j + 1) with l | l
    · rw [ltR_lt2b (hk j (by omega) (by omega))]
      rw [insInner_congr a j (swp d (j + 1) j) (by rw [size_swp]; omega) (fun k k1 k2 => by
        rw [swp_right _ _ _ (by omega), swp_other _ _ _ _ (by omega) (by omega)]
        exact hk k k1 (by omega))]
    · rw [if_neg (by simp; omega), if_neg (by simp; omega)]
def Asc (d : RA) (a b : Nat) : Prop := ∀ i j, a ≤ i → i < j → j < b → d[i]!.2 < d[j]!.2
theorem insOuter_congr (a b : Nat) : ∀ (n i : Nat) (d : RA), b - i ≤ n → a ≤ i → b ≤ d.size → (∀ p q, a ≤ p → p < q → i ≤ q → q < b → d[p]!.2 < d[q]!.2) → insOuter ltR a b i d = insOuter lt2b a b i d
  | 0, i, d, hn, _, _, _ => by
    rw [insOuter_stop _ _ _ _ _ (by omega), insOuter_stop _ _ _ _ _ (by omega)]
  | n + 1, i, d, hn, hai, hb, hq => by
    rcases Nat.lt_or_ge i b with l | l
    · rw [insOuter_go _ _ _ _ _ l, insOuter_go _ _ _ _ _ l, insInner_congr a i d (by omega) (fun k k1 k2 => hq k i k1 k2 (Nat.le_refl _) l)]
      have p := insInner_perm lt2b a i d (by omega)
      refine insOuter_congr a b n (i + 1) _ (by omega) (by omega) (by rw [p.1]; exact hb) (fun x y x1 xy y1 y2 => ?_)
      rw [p.2.1 y (.inr (by omega))]
      rcases Nat.lt_or_ge x (i + 1) with m | m
      · obtain ⟨x', h1, h2, e⟩ := perm_mem (by omega) p x1 m
        rw [e]
        exact hq x' y h1 (by omega) (by omega) y2
      · rw [p.2.1 x (.inr (by omega))]
        exact hq x y x1 xy (by omega) y2
    · rw [insOuter_stop _ _ _ _ _ (by omega), insOuter_stop _ _ _ _ _ (by omega)]
theorem swo_lt2b : SWO lt2b where
  irrefl := fun x => decide_eq_false (lt2_irrefl x)
  trans := fun x y z h k => decide_eq_true (lt2_trans (of_decide_eq_true h) (of_decide_eq_true k))
  ntrans := fun x y z h k => decide_eq_false (fun m => by
    have h' := of_decide_eq_false h
    have k' := of_decide_eq_false k
    unfold lt2 at *
    omega)
theorem insertion_sorted {d : RA} {a b : Nat} (hab : a ≤ b) (hb : b ≤ d.size) (h : Asc d a b) : PermIn a b d (insertionSort ltR d a b) ∧ Srt (insertionSort ltR d a b) a b := by
  have e : insertionSort ltR d a b = insertionSort lt2b d a b := insOuter_congr a b (b - (a + 1)) (a + 1) d (Nat.le_refl _) (by omega) hb (fun p q h1 h2 _ h3 => h p q h1 h2 h3)
  rw [e]
  obtain ⟨p, s⟩ := insertionSort_holds swo_lt2b d a b hab hb
  refine ⟨p, fun i j hi hij hj => ?_⟩
  have n := of_decide_eq_false (s i j hi hij hj)
  have ne : (insertionSort lt2b d a b)[i]! ≠ (insertionSort lt2b d a b)[j]! := by
    intro e
    have nd : ((d.extract a b).toList).Pairwise (· ≠ ·) := by
      rw [extract_toList d a b hb, List.pairwise_map]
      refine (List.pairwise_lt_range' (s := a) (n := b - a)).imp_of_mem ?_
      intro x y hx hy hxy e
      have := List.mem_range'_1.1 hx
      have := List.mem_range'_1.1 hy
      have := h x y (by omega) hxy (by omega)
      rw [e] at this
      omega
    have nd2 := (p.2.2.pairwise_iff (fun {x y} (hn : x ≠ y) => hn.symm)).2 nd
    rw [extract_toList _ a b (by rw [p.1]; exact hb), List.pairwise_map] at nd2
    have hg : ∀ (l : List Nat) (R : Nat → Nat → Prop), l.Pairwise R → ∀ u v (hu : u < l.length) (hv : v < l.length), u < v → R l[u] l[v] := fun l R hp u v hu hv huv => List.pairwise_iff_getElem.1 hp u v hu hv huv
    have := hg _ _ nd2 (i - a) (j - a) (by simp; omega) (by simp; omega) (by omega)
    simp only [List.getElem_range', Nat.one_mul] at this
    rw [show a + (i - a) = i by omega, show a + (j - a) = j by omega] at this
    exact this e
  rcases lt2_total ne with k | k
  · exact k
  · exact absurd k n
structure Blk (d : RA) (s n : Nat) : Prop where
  srt : ∀ q i j, q * s ≤ i → i < j → j < q * s + s → j < n → lt2 d[i]! d[j]!
  crs : ∀ q i j, i < q * s → q * s ≤ j → j < n → d[i]!.2 < d[j]!.2
structure Bl (d : RA) (S a n : Nat) : Prop where
  srt : ∀ q i j, q * S ≤ i → i < j → j < q * S + S → j < n → j < a → lt2 d[i]! d[j]!
  crs : ∀ q i j, i < q * S → q * S ≤ j → j < n → d[i]!.2 < d[j]!.2
structure Raw (d : RA) (s a n : Nat) : Prop where
  srt : ∀ q i j, a ≤ i → q * s ≤ i → i < j → j < q * s + s → j < n → lt2 d[i]! d[j]!
  crs : ∀ q i j, a ≤ i → i < q * s → q * s ≤ j → j < n → d[i]!.2 < d[j]!.2
theorem blk_lt {p q S : Nat} (h : p < q) : p * S + S ≤ q * S := by
  have := Nat.mul_le_mul_right S (show p + 1 ≤ q from h)
  rwa [Nat.add_mul, Nat.one_mul] at this
theorem Bl.step {d d' : RA} {S qa n b : Nat} (h : Bl d S (qa * S) n) (hn : n ≤ d.size) (hb : b = min (qa * S + S) n) (p : PermIn (qa * S) b d d') (s : Srt d' (qa * S) b) : Bl d' S ((qa + 1) * S) n := by
  have e : (qa + 1) * S = qa * S + S := by rw [Nat.add_mul, Nat.one_mul]
  have hbn : b ≤ n := by omega
  have hbS : b ≤ qa * S + S := by omega
  refine ⟨fun q i j h1 h2 h3 h4 h5 => ?_, fun q i j h1 h2 h3 => ?_⟩
  · rw [e] at h5
    rcases Nat.lt_trichotomy q qa with k | k | k
    · have := blk_lt (S := S) k
      rw [p.2.1 i (.inl (by omega)), p.2.1 j (.inl (by omega))]
      exact h.srt q i j h1 h2 h3 h4 (by omega)
    · subst k
      exact s i j h1 h2 (by omega)
    · have := blk_lt (S := S) k
      omega
  · have I : ∃ i', d'[i]! = d[i']! ∧ i' < q * S := by
      by_cases k : qa * S ≤ i ∧ i < b
      · obtain ⟨i', x1, x2, x3⟩ := perm_mem (by omega) p k.1 k.2
        have hq : qa < q := by
          rcases Nat.lt_or_ge qa q with l | l
          · exact l
          · have := Nat.mul_le_mul_right S l
            omega
        have := blk_lt (S := S) hq
        exact ⟨i', x3, by omega⟩
      · exact ⟨i, p.2.1 i (by omega), h1⟩
    have J : ∃ j', d'[j]! = d[j']! ∧ q * S ≤ j' ∧ j' < n := by
      by_cases k : qa * S ≤ j ∧ j < b
      · obtain ⟨j', x1, x2, x3⟩ := perm_mem (by omega) p k.1 k.2
        have hq : q ≤ qa := by
          rcases Nat.lt_or_ge qa q with l | l
          · have := blk_lt (S := S) l
            omega
          · exact l
        have := Nat.mul_le_mul_right S hq
        exact ⟨j', x3, by omega, by omega⟩
      · exact ⟨j, p.2.1 j (by omega), h2, h3⟩
    obtain ⟨i', e1, l1⟩ := I
    obtain ⟨j', e2, l2, l3⟩ := J
    rw [e1, e2]
    exact h.crs q i' j' l1 l2 l3
theorem Raw.keep {d d' : RA} {s a b c n : Nat} (h : Raw d s a n) (p : PermIn a b d d') (hac : a ≤ c) (hbc : b ≤ c) : Raw d' s c n := by
  refine ⟨fun q i j h0 h1 h2 h3 h4 => ?_, fun q i j h0 h1 h2 h3 => ?_⟩
  · rw [p.2.1 i (.inr (by omega)), p.2.1 j (.inr (by omega))]
    exact h.srt q i j (by omega) h1 h2 h3 h4
  · rw [p.2.1 i (.inr (by omega)), p.2.1 j (.inr (by omega))]
    exact h.crs q i j (by omega) h1 h2 h3
theorem Blk.raw {d : RA} {s n : Nat} (h : Blk d s n) : Raw d s 0 n := ⟨fun q i j _ => h.srt q i j, fun q i j _ => h.crs q i j⟩
theorem Blk.bl {d : RA} {s n : Nat} (h : Blk d s n) : Bl d (2 * s) 0 n := ⟨fun q i j _ _ _ _ h5 => by omega, fun q i j h1 h2 h3 => h.crs (q * 2) i j (by rw [Nat.mul_assoc]; exact h1) (by rw [Nat.mul_assoc]; exact h2) h3⟩
theorem Bl.blk {d : RA} {S a n : Nat} (h : Bl d S a n) (ha : n ≤ a) : Blk d S n := ⟨fun q i j h1 h2 h3 h4 => h.srt q i j h1 h2 h3 h4 (by omega), h.crs⟩
theorem Raw.parts {d : RA} {s qa n : Nat} (h : Raw d s (qa * (2 * s)) n) : (∀ b, b ≤ qa * (2 * s) + s → b ≤ n → Srt d (qa * (2 * s)) b) ∧ (∀ b, b ≤ qa * (2 * s) + 2 * s → b ≤ n → Srt d (qa * (2 * s) + s) b) ∧ (∀ b, b ≤ n → Crs d (qa * (2 * s)) (qa * (2 * s) + s) b) := by
  have e : qa * (2 * s) = (qa * 2) * s := (Nat.mul_assoc _ _ _).symm
  have e2 : (qa * 2 + 1) * s = qa * (2 * s) + s := by rw [Nat.add_mul, Nat.one_mul, e]
  refine ⟨fun b h1 h2 i j k1 k2 k3 => h.srt (qa * 2) i j k1 (by omega) k2 (by omega) (by omega), fun b h1 h2 i j k1 k2 k3 => h.srt (qa * 2 + 1) i j (by omega) (by omega) k2 (by omega) (by omega), fun b h1 i j k1 k2 k3 k4 => h.crs (qa * 2 + 1) i j k1 (by omega) (by omega) (by omega)⟩
theorem Blk.all {d : RA} {s n : Nat} (h : Blk d s n) (hs : n ≤ s) : Srt d 0 n := fun i j _ h2 h3 => h.srt 0 i j (by omega) h2 (by omega) h3
theorem Asc.bl {d : RA} {S n : Nat} (h : Asc d 0 n) : Bl d S 0 n := ⟨fun q i j _ _ _ _ h5 => by omega, fun q i j h1 h2 h3 => h i j (by omega) (by omega) h3⟩
theorem Asc.keep {d d' : RA} {a b c n : Nat} (h : Asc d a n) (p : PermIn a b d d') (hac : a ≤ c) (hbc : b ≤ c) : Asc d' c n := by
  intro i j h0 h1 h2
  rw [p.2.1 i (.inr (by omega)), p.2.1 j (.inr (by omega))]
  exact h i j (by omega) h1 h2
end Go.Tk
end
section
namespace Go.Proofs.YtmhbpifhpolghaaGreat
open Go.RowKit Go.Lib Go.Tk Go.Sort Go.Shelf
attribute [-go_sem] loadCellsFrom
theorem Tryz.mixed : Tryz.prog.follows .mixedOrders = true := by kernel_rfl
set_option maxHeartbeats 400000 in
theorem compare_any (a b : Int) (w : World) : Calls Tryz.prog 136 #[.int .i64 a, .int .i64 b] w fun e w' => e = .returned (.int .i64 (cmpI a b)) ∧ w = w' := by
  have h63 : ∀ (x : Int) (w : World), Calls Tryz.prog 181 #[.int .i64 x] w fun e w' => e = .returned (.bool false) ∧ w = w' := by
    intro x w
    go_enter Tryz.func181, Tryz.ntmps181
    go_wp2
    go_ret
    exact ⟨rfl, rfl⟩
  have H := hid h63
  clear h63
  rcases Int.lt_trichotomy a b with h | rfl | h
  · have F : Hid (cmpI a b = -1) := by unfold Hid cmpI; rw [if_pos h]
    go_enter Tryz.func136, Tryz.ntmps136
    go_wp2_with (go_at_call 181; refine (H.out _ _).mono ?_; rintro e w' ⟨rfl, rfl⟩)
    go_ret
    exact ⟨ret_i (by rw [F.out]), rfl⟩
  · have F : Hid (cmpI a a = 0) := by unfold Hid cmpI; simp
    go_enter Tryz.func136, Tryz.ntmps136
    go_wp2_with (go_at_call 181; refine (H.out _ _).mono ?_; rintro e w' ⟨rfl, rfl⟩)
    go_ret
    exact ⟨ret_i (by rw [F.out]), rfl⟩
  · have F : Hid (cmpI a b = 1) := by unfold Hid cmpI; rw [if_neg (by omega), if_pos h]
    go_enter Tryz.func136, Tryz.ntmps136
    go_wp2_with (go_at_call 181; refine (H.out _ _).mono ?_; rintro e w' ⟨rfl, rfl⟩)
    go_ret
    exact ⟨ret_i (by rw [F.out]), rfl⟩
def encR (x : Int × Nat) : List Value := [.int .i64 x.1, .int .i64 x.2]
set_option maxHeartbeats 400000 in
theorem share1_any (x y : Int × Nat) (w : World) :
    Calls Tryz.prog 135 #[.agg (encR x).toArray, .agg (encR y).toArray] w fun e w' => e = .returned (.int .i64 (cfR x y)) ∧ (w.alloc (.cells (encR x).toArray 224)).alloc (.cells (encR y).toArray 224) = w' := by
  obtain ⟨x1, x2⟩ := x
  obtain ⟨y1, y2⟩ := y
  simp only [encR]
  go_enter Tryz.func135, Tryz.ntmps135
  go_wp2_with (go_at_call 136; refine (compare_any _ _ _).mono ?_; rintro e w' ⟨rfl, rfl⟩)
  go_ret
  exact ⟨rfl, rfl⟩
theorem encR_len (x : Int × Nat) : (encR x).length = 2 := rfl
theorem encR_one (x : Int × Nat) : ∀ v ∈ encR x, v.oneCell' = true := by simp [encR, Value.oneCell']
theorem cmp_lays (blk off size : Nat) (w : World) : Go.Proofs.CmpLays Tryz.prog 135 #[] encR 2 cfR blk off size w := by
  intro m os dk _ x y
  refine (share1_any x y _).mono ?_
  rintro e w' ⟨rfl, rfl⟩
  refine ⟨rfl, 0, #[.cells (encR x).toArray 224, .cells (encR y).toArray 224], ?_⟩
  rfl
theorem rowR {w : World} {blk off : Nat} {d : RA} (hH : HoldsK encR 2 w blk off d) (hb : blk < w.heap.size) : RowK encR 2 w blk off d := ⟨encR_len, encR_one, hH, hb⟩
set_option maxHeartbeats 4000000 in
set_option maxRecDepth 1000000 in
theorem swapRange_any (blk off cap a b n : Nat) (d0 d : RA) (w0 w : World) (R : RowK encR 2 w0 blk off d0) (hs : d0.size = d.size) (S : SWK encR 2 w0 blk off d w)
    (hab : a + n ≤ b) (hb : b + n ≤ d.size) (hsz : d.size < 4611686018427387904) :
    Calls Tryz.prog 248 #[.slice (some ⟨blk, off, none⟩) d.size cap, .int .i64 a, .int .i64 b, .int .i64 n, .func (.func 135) #[] #[]] w fun e w' =>
      e = .returned (.tuple #[]) ∧ SWK encR 2 w0 blk off (swapR d a b n) w' := by
  have mixed := Tryz.mixed
  have S0 : Aside (SWK encR 2 w0 blk off d w) := S
  clear S
  go_enter Tryz.func248, Tryz.ntmps248
  go_wp2
  go_loopg [10] n (fun kx s10 wr => ∃ i : Nat, s10 = .int .i64 i ∧ i ≤ n ∧ n - i ≤ kx ∧ Aside (SWK encR 2 w0 blk off (swapR d a b i) wr))
  case atStart => exact ⟨0, rfl, by omega, by omega, S0⟩
  case round =>
    clear S0
    obtain ⟨i, rfl, hin, hkx, S1⟩ := hrel
    by_cases hlt : i < n
    · have hltz : (i : Int) < (n : Int) := by omega
      obtain ⟨dk, hdk⟩ : ∃ dk, dk = swapR d a b i := ⟨_, rfl⟩
      have hds : dk.size = d.size := by rw [hdk]; exact size_swapR d a b i
      have HD : Hid (dk = swapR d a b i) := hdk
      rw [← hdk] at S1
      clear hdk
      go_wp2_with fail
      have ea : ((a : Int) + (i : Int)).toNat = a + i := by omega
      have pa : (0 : Int) ≤ (a : Int) + (i : Int) := by omega
      have ba : (a : Int) + (i : Int) < (d.size : Int) := by omega
      have ra : IntKind.i64.wrap ((a : Int) + (i : Int)) = (a : Int) + (i : Int) := by rw [IntKind.wrap_i64]; omega
      have eb : ((b : Int) + (i : Int)).toNat = b + i := by omega
      have pb : (0 : Int) ≤ (b : Int) + (i : Int) := by omega
      have bb : (b : Int) + (i : Int) < (d.size : Int) := by omega
      have rb : IntKind.i64.wrap ((b : Int) + (i : Int)) = (b : Int) + (i : Int) := by rw [IntKind.wrap_i64]; omega
      have S2 : Aside (SWK encR 2 w0 blk off (swp dk (a + i) (b + i)) ((wr.drew.setCells blk (off + (a + i) * 2) (encR dk[b + i]!)).setCells blk (off + (b + i) * 2) (encR dk[a + i]!))) := S1.out.swapped R (a + i) (b + i) (by omega) (by omega)
      have l1 := S1.out.ld1 R (by omega) Tryz.prog (a + i) (by omega)
      have l2 := S1.out.ld1 R (by omega) Tryz.prog (b + i) (by omega)
      have s1 := S1.out.st1 R (by omega) Tryz.prog (a + i) (by omega) dk[b + i]!
      have s2 := S1.out.st2 R (by omega) Tryz.prog (a + i) (b + i) (by omega) (by omega) dk[b + i]! dk[a + i]!
      have n1 : (encR dk[a + i]!).length = 2 := R.hk _
      have n2 : (encR dk[b + i]!).length = 2 := R.hk _
      generalize encR dk[a + i]! = cI at S2 l1 s2 n1
      generalize encR dk[b + i]! = cJ at S2 l2 s1 s2 n2
      clear S1
      go_wp2_with fail
      go_big_region_o
      clear l1 l2 s1 s2
      generalize (wr.drew.setCells blk (off + (a + i) * 2) cJ).setCells blk (off + (b + i) * 2) cI = w2 at S2 ⊢
      go_wp2
      go_roundg (n - (i + 1))
      case measure => omega
      case rel =>
        refine ⟨i + 1, by go_num, by omega, Nat.le_refl _, ?_⟩
        have : swapR d a b (i + 1) = swp dk (a + i) (b + i) := by rw [HD.out]; rfl
        rw [this]; exact S2
    · have hnot : ¬ (i : Int) < (n : Int) := by omega
      have : i = n := by omega
      subst this
      go_wp2
      go_end0
      exact ⟨rfl, S1.out⟩
attribute [-go_sem] loadCellsFrom
theorem swapRange_at (blk off cap a b n : Nat) (az bz nz : Int) (ha : az = (a : Int)) (hbz : bz = (b : Int)) (hn : nz = (n : Int)) (d0 d : RA) (w0 w : World) (R : RowK encR 2 w0 blk off d0) (hs : d.size = d0.size) (S : SWK encR 2 w0 blk off d w)
    (hab : a + n ≤ b) (hb : b + n ≤ d0.size) (hsz : d0.size < 4611686018427387904) :
    Calls Tryz.prog 248 #[.slice (some ⟨blk, off, none⟩) d0.size cap, .int .i64 az, .int .i64 bz, .int .i64 nz, .func (.func 135) #[] #[]] w fun e w' =>
      e = .returned (.tuple #[]) ∧ SWK encR 2 w0 blk off (swapR d a b n) w' := by
  subst ha hbz hn
  rw [← hs]
  exact swapRange_any blk off cap a b n d0 d w0 w R hs.symm S hab (by omega) (by omega)
set_option maxHeartbeats 4000000 in
set_option maxRecDepth 1000000 in
theorem rotate_any (blk off cap a m b : Nat) (d0 d : RA) (w0 w : World) (R : RowK encR 2 w0 blk off d0) (hs : d.size = d0.size) (S : SWK encR 2 w0 blk off d w)
    (ham : a < m) (hmb : m < b) (hb : b ≤ d0.size) (hsz : d0.size < 4611686018427387904) :
    Calls Tryz.prog 239 #[.slice (some ⟨blk, off, none⟩) d0.size cap, .int .i64 a, .int .i64 m, .int .i64 b, .func (.func 135) #[] #[]] w fun e w' =>
      e = .returned (.tuple #[]) ∧ ∃ d', SWK encR 2 w0 blk off d' w' ∧ PermIn a b d d' ∧ IsRot d d' a m b := by
  have mixed := Tryz.mixed
  have S0 : Aside (SWK encR 2 w0 blk off d w) := S
  clear S
  go_enter Tryz.func239, Tryz.ntmps239
  go_wp2
  go_loopg [10, 11] (b - a) (fun kx s10 s11 wr => ∃ (i j : Nat) (dk : RA), s10 = .int .i64 i ∧ s11 = .int .i64 j ∧ 0 < i ∧ 0 < j ∧ a + i ≤ m ∧ m + j ≤ b ∧ i + j ≤ kx ∧ dk.size = d0.size ∧ Aside (SWK encR 2 w0 blk off dk wr) ∧
    Aside (PermIn a b d dk ∧ ∀ d', IsRot dk d' (m - i) m (m + j) → IsRot d d' a m b))
  case atStart =>
    refine ⟨m - a, b - m, d, by go_num, by go_num, by omega, by omega, by omega, by omega, by omega, hs, S0, permIn_refl d a b, fun d' h => ?_⟩
    rw [show m - (m - a) = a by omega, show m + (b - m) = b by omega] at h
    exact h
  case round =>
    clear S0
    obtain ⟨i, j, dk, rfl, rfl, hi, hj, hai, hjb, hkx, hsk, S1, PR⟩ := hrel
    rcases Nat.lt_trichotomy i j with hlt | rfl | hlt
    · have h1 : ((i : Int) != (j : Int)) = true := by simp; omega
      have h2 : ¬ (j : Int) < (i : Int) := by omega
      go_wp2_with fail
      go_at_call 248
      refine (swapRange_at blk off cap (m - i) (m + j - i) i _ _ _ (by omega) (by omega) rfl d0 dk w0 wr R hsk S1.out (by omega) (by omega) hsz).mono ?_
      rintro e w' ⟨rfl, hS⟩
      have S2 : Aside (SWK encR 2 w0 blk off (swapR dk (m - i) (m + j - i) i) w') := hS
      clear hS S1
      go_wp2
      go_roundg j
      case measure => omega
      case rel =>
        refine ⟨i, j - i, swapR dk (m - i) (m + j - i) i, rfl, by go_num, hi, by omega, hai, by omega, by omega, by rw [size_swapR]; exact hsk, S2, permIn_trans _ _ _ _ _ PR.out.1 (swapR_perm dk (m - i) (m + j - i) a b (by omega) (by omega) (by omega) i (by omega)), fun d' h => ?_⟩
        refine PR.out.2 d' (IsRot.right (by omega) (by omega) (by omega) (by omega) ?_)
        rw [show m + j - (m - (m - i)) = m + j - i by omega, show m - (m - i) = i by omega]
        rw [show m + (j - i) = m + j - i by omega] at h
        exact h
    · have h1 : ((i : Int) != (i : Int)) = false := by simp
      go_wp2_with fail
      go_at_call 248
      refine (swapRange_at blk off cap (m - i) m i _ _ _ (by omega) rfl rfl d0 dk w0 wr R hsk S1.out (by omega) (by omega) hsz).mono ?_
      rintro e w' ⟨rfl, hS⟩
      have S2 : Aside (SWK encR 2 w0 blk off (swapR dk (m - i) m i) w') := hS
      clear hS S1
      go_wp2
      go_end0
      refine ⟨rfl, _, S2.out, permIn_trans _ _ _ _ _ PR.out.1 (swapR_perm dk (m - i) m a b (by omega) (by omega) (by omega) i (by omega)), PR.out.2 _ ?_⟩
      have := IsRot.eq (d := dk) (a := m - i) (m := m) (b := m + i) (by omega) (by omega) (by omega) (by omega)
      rw [show m - (m - i) = i by omega] at this
      exact this
    · have h1 : ((i : Int) != (j : Int)) = true := by simp; omega
      have h2 : (j : Int) < (i : Int) := by omega
      go_wp2_with fail
      go_at_call 248
      refine (swapRange_at blk off cap (m - i) m j _ _ _ (by omega) rfl rfl d0 dk w0 wr R hsk S1.out (by omega) (by omega) hsz).mono ?_
      rintro e w' ⟨rfl, hS⟩
      have S2 : Aside (SWK encR 2 w0 blk off (swapR dk (m - i) m j) w') := hS
      clear hS S1
      go_wp2
      go_roundg i
      case measure => omega
      case rel =>
        refine ⟨i - j, j, swapR dk (m - i) m j, by go_num, rfl, by omega, hj, by omega, hjb, by omega, by rw [size_swapR]; exact hsk, S2, permIn_trans _ _ _ _ _ PR.out.1 (swapR_perm dk (m - i) m a b (by omega) (by omega) (by omega) j (by omega)), fun d' h => ?_⟩
        refine PR.out.2 d' (IsRot.left (by omega) (by omega) (by omega) (by omega) ?_)
        rw [show m + j - m = j by omega, show m - i + j = m - (i - j) by omega]
        exact h
attribute [-go_sem] loadCellsFrom
set_option maxHeartbeats 4000000 in
set_option maxRecDepth 1000000 in
theorem symOne_any (blk off cap a b : Nat) (d0 d : RA) (w0 w : World) (R : RowK encR 2 w0 blk off d0) (hs : d.size = d0.size) (S : SWK encR 2 w0 blk off d w)
    (hmb : a + 1 < b) (hb : b ≤ d0.size) (hsz : d0.size < 4611686018427387904) (hR : Srt d (a + 1) b) (hC : Crs d a (a + 1) b) (mz : Int) (hmz : mz = ((a + 1 : Nat) : Int)) :
    Calls Tryz.prog 213 #[.slice (some ⟨blk, off, none⟩) d0.size cap, .int .i64 a, .int .i64 mz, .int .i64 b, .func (.func 135) #[] #[]] w fun e w' =>
      e = .returned (.tuple #[]) ∧ ∃ d', SWK encR 2 w0 blk off d' w' ∧ PermIn a b d d' ∧ Srt d' a b := by
  have mixed := Tryz.mixed
  have S0 : Aside (SWK encR 2 w0 blk off d w) := S
  have HR : Aside (Srt d (a + 1) b) := hR
  have HC : Aside (Crs d a (a + 1) b) := hC
  obtain ⟨m, hm1, hm2⟩ : ∃ m : Nat, m ≤ a + 1 ∧ a + 1 ≤ m := ⟨_, Nat.le_refl _, Nat.le_refl _⟩
  obtain rfl : mz = (m : Int) := by omega
  clear hmz
  have t1 : ((m : Int) - (a : Int) == 1) = true := by simp; omega
  clear S hR hC
  go_enter Tryz.func213, Tryz.ntmps213
  go_wp2
  go_loopg [10, 11] (b - m) (fun kx s10 s11 wr => ∃ i j : Nat, s10 = .int .i64 i ∧ s11 = .int .i64 j ∧ m ≤ i ∧ i ≤ j ∧ j ≤ b ∧ j - i ≤ kx ∧ Aside (SWK encR 2 w0 blk off d wr) ∧
    Aside ((∀ h, m ≤ h → h < i → d[a]!.1 < d[h]!.1) ∧ (∀ h, j ≤ h → h < b → ¬ d[a]!.1 < d[h]!.1)))
  case atStart => exact ⟨m, b, rfl, rfl, by omega, by omega, by omega, by omega, S0, fun h _ _ => by omega, fun h _ _ => by omega⟩
  case round =>
    clear S0
    obtain ⟨i, j, rfl, rfl, hmi, hij, hjb, hkx, S1, BS⟩ := hrel
    by_cases hlt : i < j
    · have hltz : (i : Int) < (j : Int) := by omega
      obtain ⟨xh, hxh⟩ : ∃ x, d[(i + j) / 2]! = x := ⟨_, rfl⟩
      obtain ⟨xa, hxa⟩ : ∃ x, d[a]! = x := ⟨_, rfl⟩
      have lj := S1.out.ld R hs Tryz.prog ((i + j) / 2) (by omega)
      have la := S1.out.ld R hs Tryz.prog a (by omega)
      have hcg : ∀ n' os', Calls Tryz.prog 135 #[.agg (encR xh).toArray, .agg (encR xa).toArray] (grow (wr.drewN n') os') fun e w' => e = .returned (.int .i64 (cfR xh xa)) ∧ ∃ q os'', w' = grow ((grow (wr.drewN n') os').drewN q) os'' :=
        fun n os => S1.out.cmp (cmp_lays blk off d0.size w0) hs xh xa n os
      rw [hxh] at lj
      rw [hxa] at la
      have ph : (0 : Int) ≤ ((i : Int) + (j : Int)) / 2 := by omega
      have bh : ((i : Int) + (j : Int)) / 2 < (d0.size : Int) := by omega
      have eh : (((i : Int) + (j : Int)) / 2).toNat = (i + j) / 2 := by omega
      have pa : (0 : Int) ≤ (a : Int) := by omega
      have ba : (a : Int) < (d0.size : Int) := by omega
      have XH : Hid (d[(i + j) / 2]! = xh ∧ d[a]! = xa) := ⟨hxh, hxa⟩
      clear hxh hxa
      by_cases hlv : cfR xh xa < 0
      · go_wp2_with fail
        go_quiet_grown (first | (go_at_call 135; refine Calls.grown_of (hcg _ _)))
        have S2 : Aside (SWK encR 2 w0 blk off d (grow (wr.drewN nq) osq)) := S1.out.grown nq osq
        go_wp2
        go_roundg (j - ((i + j) / 2 + 1))
        case measure => omega
        case rel =>
          refine ⟨(i + j) / 2 + 1, j, by go_num, rfl, by omega, by omega, hjb, Nat.le_refl _, S2, fun h h1 h2 => ?_, BS.out.2⟩
          have e1 := (cfR_neg xh xa).1 hlv
          rw [← XH.out.1, ← XH.out.2] at e1
          have e2 := HR.out.le (i := h) (j := (i + j) / 2) (by omega) (by omega) (by omega)
          omega
      · go_wp2_with fail
        go_quiet_grown (first | (go_at_call 135; refine Calls.grown_of (hcg _ _)))
        have S2 : Aside (SWK encR 2 w0 blk off d (grow (wr.drewN nq) osq)) := S1.out.grown nq osq
        go_wp2
        go_roundg ((i + j) / 2 - i)
        case measure => omega
        case rel =>
          refine ⟨i, (i + j) / 2, rfl, by go_num, hmi, by omega, by omega, Nat.le_refl _, S2, BS.out.1, fun h h1 h2 => ?_⟩
          have e1 : ¬ xa.1 < xh.1 := fun k => by have := (cfR_neg xh xa).2 k; omega
          rw [← XH.out.1, ← XH.out.2] at e1
          have e2 := HR.out.le (i := (i + j) / 2) (j := h) (by omega) h1 h2
          omega
    · have hltz : ¬ (i : Int) < (j : Int) := by omega
      go_wp2
      go_loopg [13] (i - 1 - a) (fun kx s13 wr => ∃ t : Nat, s13 = .int .i64 ((a + t : Nat) : Int) ∧ a + t + 1 ≤ i ∧ i - 1 - (a + t) ≤ kx ∧ Aside (SWK encR 2 w0 blk off (shiftU d a t) wr))
      case atStart => exact ⟨0, by simp, by omega, by omega, S1⟩
      case round =>
        clear S1
        obtain ⟨t, rfl, ht, hk2, S1⟩ := hrel
        obtain ⟨dk, hdk⟩ : ∃ dk, dk = shiftU d a t := ⟨_, rfl⟩
        have hds : dk.size = d0.size := by rw [hdk, size_shiftU]; exact hs
        have HD : Hid (dk = shiftU d a t) := hdk
        rw [← hdk] at S1
        clear hdk
        obtain ⟨k, hk3, hk4⟩ : ∃ k : Nat, k ≤ a + t ∧ a + t ≤ k := ⟨_, Nat.le_refl _, Nat.le_refl _⟩
        obtain ⟨kz, hkz⟩ : ∃ kz : Int, kz = ((a + t : Nat) : Int) := ⟨_, rfl⟩
        rw [← hkz]
        obtain rfl : kz = (k : Int) := by omega
        clear hkz
        by_cases hkl : k + 1 < i
        · have hklz : (k : Int) < (i : Int) - 1 := by omega
          go_wp2_with fail
          have pa2 : (0 : Int) ≤ (k : Int) := by omega
          have ba2 : (k : Int) < (d0.size : Int) := by omega
          have pb2 : (0 : Int) ≤ (k : Int) + 1 := by omega
          have bb2 : (k : Int) + 1 < (d0.size : Int) := by omega
          have eb2 : ((k : Int) + 1).toNat = k + 1 := by omega
          have S2 : Aside (SWK encR 2 w0 blk off (swp dk k (k + 1)) ((wr.drew.setCells blk (off + k * 2) (encR dk[k + 1]!)).setCells blk (off + (k + 1) * 2) (encR dk[k]!))) := S1.out.swapped R k (k + 1) (by omega) (by omega)
          have l1 := S1.out.ld1 R hds Tryz.prog k (by omega)
          have l2 := S1.out.ld1 R hds Tryz.prog (k + 1) (by omega)
          have s1 := S1.out.st1 R hds Tryz.prog k (by omega) dk[k + 1]!
          have s2 := S1.out.st2 R hds Tryz.prog k (k + 1) (by omega) (by omega) dk[k + 1]! dk[k]!
          have n1 : (encR dk[k]!).length = 2 := R.hk _
          have n2 : (encR dk[k + 1]!).length = 2 := R.hk _
          generalize encR dk[k]! = cI at S2 l1 s2 n1
          generalize encR dk[k + 1]! = cJ at S2 l2 s1 s2 n2
          clear S1
          go_wp2_with fail
          go_big_region_o
          clear l1 l2 s1 s2
          generalize (wr.drew.setCells blk (off + k * 2) cJ).setCells blk (off + (k + 1) * 2) cI = w2 at S2 ⊢
          go_wp2
          go_roundg (i - 1 - (a + (t + 1)))
          case measure => omega
          case rel =>
            refine ⟨t + 1, by congr 1; omega, by omega, Nat.le_refl _, ?_⟩
            have e1 : shiftU d a (t + 1) = swp dk k (k + 1) := by
              rw [HD.out, show k = a + t by omega]; rfl
            rw [e1]; exact S2
        · have hklz : ¬ (k : Int) < (i : Int) - 1 := by omega
          go_wp2
          refine bodyPost_ret (results_none rfl _ _ _) rfl ?_
          have e1 : dk = shiftU d a (i - 1 - a) := by rw [HD.out, show t = i - 1 - a by omega]
          refine ⟨rfl, _, S1.out, ?_, ?_⟩
          · rw [e1]; exact shiftU_perm d a a b (Nat.le_refl _) (by omega) _ (by omega)
          · rw [e1]
            exact up_sorted HR.out HC.out (by omega) (by omega) (by omega) (fun h h1 h2 => BS.out.1 h (by omega) h2) (fun h h1 h2 => by have := BS.out.2 h (by omega) h2; omega)
attribute [-go_sem] loadCellsFrom
set_option maxHeartbeats 4000000 in
set_option maxRecDepth 1000000 in
theorem symLast_any (blk off cap a m b : Nat) (d0 d : RA) (w0 w : World) (R : RowK encR 2 w0 blk off d0) (hs : d.size = d0.size) (S : SWK encR 2 w0 blk off d w)
    (ham : a + 1 < m) (hmb : m < b) (hbz : b ≤ m + 1) (hb : b ≤ d0.size) (hsz : d0.size < 4611686018427387904) (hL : Srt d a m) (hC : Crs d a m (m + 1)) :
    Calls Tryz.prog 213 #[.slice (some ⟨blk, off, none⟩) d0.size cap, .int .i64 a, .int .i64 m, .int .i64 b, .func (.func 135) #[] #[]] w fun e w' =>
      e = .returned (.tuple #[]) ∧ ∃ d', SWK encR 2 w0 blk off d' w' ∧ PermIn a b d d' ∧ Srt d' a b := by
  have mixed := Tryz.mixed
  have S0 : Aside (SWK encR 2 w0 blk off d w) := S
  have HL : Aside (Srt d a m) := hL
  have HC : Aside (Crs d a m (m + 1)) := hC
  have t1 : ((m : Int) - (a : Int) == 1) = false := by simp; omega
  have t2 : ((b : Int) - (m : Int) == 1) = true := by simp; omega
  clear S hL hC
  go_enter Tryz.func213, Tryz.ntmps213
  go_wp2
  go_loopg [14, 15] (m - a) (fun kx s10 s11 wr => ∃ i j : Nat, s10 = .int .i64 i ∧ s11 = .int .i64 j ∧ a ≤ i ∧ i ≤ j ∧ j ≤ m ∧ j - i ≤ kx ∧ Aside (SWK encR 2 w0 blk off d wr) ∧
    Aside ((∀ h, a ≤ h → h < i → ¬ d[h]!.1 < d[m]!.1) ∧ (∀ h, j ≤ h → h < m → d[h]!.1 < d[m]!.1)))
  case atStart => exact ⟨a, m, rfl, rfl, by omega, by omega, by omega, by omega, S0, fun h _ _ => by omega, fun h _ _ => by omega⟩
  case round =>
    clear S0
    obtain ⟨i, j, rfl, rfl, hmi, hij, hjb, hkx, S1, BS⟩ := hrel
    by_cases hlt : i < j
    · have hltz : (i : Int) < (j : Int) := by omega
      obtain ⟨xh, hxh⟩ : ∃ x, d[(i + j) / 2]! = x := ⟨_, rfl⟩
      obtain ⟨xa, hxa⟩ : ∃ x, d[m]! = x := ⟨_, rfl⟩
      have lj := S1.out.ld R hs Tryz.prog ((i + j) / 2) (by omega)
      have la := S1.out.ld R hs Tryz.prog m (by omega)
      have hcg : ∀ n' os', Calls Tryz.prog 135 #[.agg (encR xa).toArray, .agg (encR xh).toArray] (grow (wr.drewN n') os') fun e w' => e = .returned (.int .i64 (cfR xa xh)) ∧ ∃ q os'', w' = grow ((grow (wr.drewN n') os').drewN q) os'' :=
        fun n os => S1.out.cmp (cmp_lays blk off d0.size w0) hs xa xh n os
      rw [hxh] at lj
      rw [hxa] at la
      have ph : (0 : Int) ≤ ((i : Int) + (j : Int)) / 2 := by omega
      have bh : ((i : Int) + (j : Int)) / 2 < (d0.size : Int) := by omega
      have eh : (((i : Int) + (j : Int)) / 2).toNat = (i + j) / 2 := by omega
      have pa : (0 : Int) ≤ (m : Int) := by omega
      have ba : (m : Int) < (d0.size : Int) := by omega
      have XH : Hid (d[(i + j) / 2]! = xh ∧ d[m]! = xa) := ⟨hxh, hxa⟩
      clear hxh hxa
      by_cases hlv : cfR xa xh < 0
      · go_wp2_with fail
        go_quiet_grown (first | (go_at_call 135; refine Calls.grown_of (hcg _ _)))
        have S2 : Aside (SWK encR 2 w0 blk off d (grow (wr.drewN nq) osq)) := S1.out.grown nq osq
        go_wp2
        go_roundg ((i + j) / 2 - i)
        case measure => omega
        case rel =>
          refine ⟨i, (i + j) / 2, rfl, by go_num, hmi, by omega, by omega, Nat.le_refl _, S2, BS.out.1, fun h h1 h2 => ?_⟩
          have e1 := (cfR_neg xa xh).1 hlv
          rw [← XH.out.1, ← XH.out.2] at e1
          have e2 := HL.out.le (i := (i + j) / 2) (j := h) (by omega) h1 h2
          omega
      · have hlb : (!decide (cfR xa xh < 0)) = true := by simp; omega
        go_wp2_with fail
        go_quiet_grown (first | (go_at_call 135; refine Calls.grown_of (hcg _ _)))
        have S2 : Aside (SWK encR 2 w0 blk off d (grow (wr.drewN nq) osq)) := S1.out.grown nq osq
        go_wp2
        go_roundg (j - ((i + j) / 2 + 1))
        case measure => omega
        case rel =>
          refine ⟨(i + j) / 2 + 1, j, by go_num, rfl, by omega, by omega, hjb, Nat.le_refl _, S2, fun h h1 h2 => ?_, BS.out.2⟩
          have e1 : ¬ xh.1 < xa.1 := fun k => by have := (cfR_neg xa xh).2 k; omega
          rw [← XH.out.1, ← XH.out.2] at e1
          have e2 := HL.out.le (i := h) (j := (i + j) / 2) (by omega) (by omega) (by omega)
          omega
    · have hltz : ¬ (i : Int) < (j : Int) := by omega
      go_wp2
      go_loopg [17] (m - i) (fun kx s13 wr => ∃ k t : Nat, s13 = .int .i64 (k : Int) ∧ m ≤ k + t ∧ k + t ≤ m ∧ i ≤ k ∧ k - i ≤ kx ∧ Aside (SWK encR 2 w0 blk off (shiftD d m t) wr))
      case atStart => exact ⟨m, 0, rfl, by omega, by omega, by omega, by omega, S1⟩
      case round =>
        clear S1
        obtain ⟨k, t, rfl, hk3, hk4, hik, hk2, S1⟩ := hrel
        obtain ⟨dk, hdk⟩ : ∃ dk, dk = shiftD d m t := ⟨_, rfl⟩
        have hds : dk.size = d0.size := by rw [hdk, size_shiftD]; exact hs
        have HD : Hid (dk = shiftD d m t) := hdk
        rw [← hdk] at S1
        clear hdk
        by_cases hkl : i < k
        · have hklz : (i : Int) < (k : Int) := by omega
          go_wp2_with fail
          have pa2 : (0 : Int) ≤ (k : Int) := by omega
          have ba2 : (k : Int) < (d0.size : Int) := by omega
          have pb2 : (0 : Int) ≤ (k : Int) - 1 := by omega
          have bb2 : (k : Int) - 1 < (d0.size : Int) := by omega
          have eb2 : ((k : Int) - 1).toNat = k - 1 := by omega
          have S2 : Aside (SWK encR 2 w0 blk off (swp dk k (k - 1)) ((wr.drew.setCells blk (off + k * 2) (encR dk[k - 1]!)).setCells blk (off + (k - 1) * 2) (encR dk[k]!))) := S1.out.swapped R k (k - 1) (by omega) (by omega)
          have l1 := S1.out.ld1 R hds Tryz.prog k (by omega)
          have l2 := S1.out.ld1 R hds Tryz.prog (k - 1) (by omega)
          have s1 := S1.out.st1 R hds Tryz.prog k (by omega) dk[k - 1]!
          have s2 := S1.out.st2 R hds Tryz.prog k (k - 1) (by omega) (by omega) dk[k - 1]! dk[k]!
          have n1 : (encR dk[k]!).length = 2 := R.hk _
          have n2 : (encR dk[k - 1]!).length = 2 := R.hk _
          generalize encR dk[k]! = cI at S2 l1 s2 n1
          generalize encR dk[k - 1]! = cJ at S2 l2 s1 s2 n2
          clear S1
          go_wp2_with fail
          go_big_region_o
          clear l1 l2 s1 s2
          generalize (wr.drew.setCells blk (off + k * 2) cJ).setCells blk (off + (k - 1) * 2) cI = w2 at S2 ⊢
          go_wp2
          go_roundg (k - 1 - i)
          case measure => omega
          case rel =>
            refine ⟨k - 1, t + 1, by go_num, by omega, by omega, by omega, Nat.le_refl _, ?_⟩
            have e1 : shiftD d m (t + 1) = swp dk k (k - 1) := by
              rw [HD.out, show k = m - t by omega]; rfl
            rw [e1]; exact S2
        · have hklz : ¬ (i : Int) < (k : Int) := by omega
          go_wp2
          refine bodyPost_ret (results_none rfl _ _ _) rfl ?_
          have e1 : dk = shiftD d m (m - i) := by rw [HD.out, show t = m - i by omega]
          have e2 : b = m + 1 := by omega
          subst e2
          refine ⟨rfl, _, S1.out, ?_, ?_⟩
          · rw [e1]; exact shiftD_perm d m a (m + 1) (by omega) (by omega) _ (by omega)
          · rw [e1]
            exact down_sorted HL.out HC.out (by omega) (by omega) (by omega) (fun h h1 h2 => by have := BS.out.1 h h1 h2; omega) (fun h h1 h2 => BS.out.2 h (by omega) h2)
end Go.Proofs.YtmhbpifhpolghaaGreat
end
