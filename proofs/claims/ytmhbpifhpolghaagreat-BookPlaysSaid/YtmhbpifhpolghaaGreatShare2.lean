/- PRORATE: Share, where nothing is wrong. -/
import Derived.Test.YtmhbpifhpolghaaGreatM9feae04
namespace Go.Proofs.YtmhbpifhpolghaaGreat
open Go.RowKit Go.Lib Go.Tk Go.Sort Go.Shelf
def restC (t S : Int) (ws : List Int) (k : Nat) : List (Int × Nat) := ((ws.take k).map (rs t S)).zipIdx
def whC (t S : Int) (ws : List Int) (k : Nat) : List Int := (ws.take k).map (wh t S)
theorem whC_succ {t S : Int} {ws : List Int} {k : Nat} (h : k < ws.length) : whC t S ws (k + 1) = whC t S ws k ++ [wh t S (ws.getD k 0)] := by
  unfold whC; rw [List.take_succ_eq_append_getElem h, List.map_append]; simp [List.getD_eq_getElem?_getD, h]
theorem restC_succ {t S : Int} {ws : List Int} {k : Nat} (h : k < ws.length) : restC t S ws (k + 1) = restC t S ws k ++ [(rs t S (ws.getD k 0), k)] := by
  unfold restC
  rw [List.take_succ_eq_append_getElem h, List.map_append, List.zipIdx_append]
  simp [List.getD_eq_getElem?_getD, h, Nat.min_eq_left (Nat.le_of_lt h)]
theorem restC_len {t S : Int} {ws : List Int} {k : Nat} (h : k ≤ ws.length) : (restC t S ws k).length = k := by simp [restC]; omega
theorem wh_bd {t S x : Int} (ht : 0 ≤ t) (hS : 0 < S) (h0 : 0 ≤ x) (hx : x ≤ S) : 0 ≤ wh t S x ∧ wh t S x ≤ t := by
  refine ⟨Int.ediv_nonneg (Int.mul_nonneg ht h0) (by omega), ?_⟩
  have : t * x ≤ t * S := Int.mul_le_mul_of_nonneg_left hx ht
  have h2 := Int.ediv_le_ediv hS this
  rw [Int.mul_ediv_cancel _ (by omega)] at h2
  exact h2
theorem left_bd {t : Int} {ws : List Int} (hp : PosRow ws) (ht : 0 ≤ t) (hS : 0 < ws.sum) (k : Nat) : 0 ≤ t - (whC t ws.sum ws k).sum ∧ t - (whC t ws.sum ws k).sum ≤ t := by
  have hx : ∀ x ∈ ws, 0 ≤ wh t ws.sum x := fun x hx => (wh_bd ht hS (hp x hx).1 (le_sum ws (fun y hy => (hp y hy).1) x hx)).1
  have h1 := left_nonneg t ws hS
  have h2 : (ws.map (wh t ws.sum)).sum = (whC t ws.sum ws k).sum + ((ws.drop k).map (wh t ws.sum)).sum := by
    unfold whC
    generalize wh t ws.sum = f
    conv => lhs; rw [← List.take_append_drop k ws]
    rw [List.map_append, List.sum_append_int]
  have h3 : 0 ≤ ((ws.drop k).map (wh t ws.sum)).sum := sum_nonneg _ (by
    intro y hy; obtain ⟨x, hx', rfl⟩ := List.mem_map.1 hy; exact hx x (List.mem_of_mem_drop hx'))
  have h4 : 0 ≤ (whC t ws.sum ws k).sum := sum_nonneg _ (by
    intro y hy; obtain ⟨x, hx', rfl⟩ := List.mem_map.1 hy; exact hx x (List.mem_of_mem_take hx'))
  omega
theorem partOk_of {t S x : Int} (h0 : 0 ≤ t) (h1 : t ≤ 1125899906842624) (hS : 0 < S) (hS2 : S ≤ 274877906880) (hx : 0 ≤ x) (hx2 : x ≤ S) : PartOk t x S := ⟨h0, h1, hx, by omega, hx2, by omega⟩
theorem i64row2 : (Tryz.prog.info? 2).map (fun i => (i.zero, i.size, i.bytes)) = some (some (.int .i64 0), 1, 8) := by kernel_rfl
theorem restrow : (Tryz.prog.info? 224).map (fun i => (i.zero, i.size, i.bytes)) = some (some (.agg #[.int .i64 0, .int .i64 0]), 2, 16) := by kernel_rfl
def cellsR (l : List (Int × Nat)) : List Value := (l.map encR).flatten
theorem cellsR_snoc (l : List (Int × Nat)) (x : Int × Nat) : cellsR (l ++ [x]) = cellsR l ++ [.int .i64 x.1, .int .i64 x.2] := by simp [cellsR, encR]
def outC (t : Int) (ws : List Int) (k : Nat) : List Int := ws.zipIdx.map fun x => wh t ws.sum x.1 + if chosen (restsL t ws.sum ws) k x.2 then 1 else 0
theorem outC_zero (t : Int) (ws : List Int) : outC t ws 0 = whC t ws.sum ws ws.length := by
  unfold outC whC
  have : ∀ i, chosen (restsL t ws.sum ws) 0 i = false := fun i => by simp [chosen]
  simp only [this, List.take_length]
  refine List.ext_getElem (by simp) fun i h1 h2 => by simp
theorem outC_len (t : Int) (ws : List Int) (k : Nat) : (outC t ws k).length = ws.length := by simp [outC]
theorem outC_get (t : Int) (ws : List Int) (k i : Nat) (h : i < ws.length) : (outC t ws k).getD i 0 = wh t ws.sum (ws.getD i 0) + if chosen (restsL t ws.sum ws) k i then 1 else 0 := by
  unfold outC; rw [getD_zipIdx_map _ _ _ _ h]
theorem outC_succ {t : Int} {ws : List Int} {k : Nat} (h : k < ws.length) :
    outC t ws (k + 1) = (outC t ws k).set ((sortL (restsL t ws.sum ws)).getD k (0, 0)).2 ((outC t ws k).getD ((sortL (restsL t ws.sum ws)).getD k (0, 0)).2 0 + 1) := by
  refine List.ext_getElem (by simp [outC]) fun i h1 h2 => ?_
  have hi : i < ws.length := by simpa [outC] using h1
  have hn := not_chosen_at (t := t) (all := ws.sum) h
  have hs := chosen_succ (t := t) (all := ws.sum) (i := i) h
  have hsl : ((sortL (restsL t ws.sum ws)).getD k (0, 0)).2 < ws.length := by
    have hk' : k < (sortL (restsL t ws.sum ws)).length := by rw [sort_len]; exact h
    have e : (sortL (restsL t ws.sum ws)).getD k (0, 0) = (sortL (restsL t ws.sum ws))[k] := by simp [List.getD_eq_getElem?_getD, hk']
    rw [e]; exact (mem_rests (List.getElem_mem hk')).1
  generalize ((sortL (restsL t ws.sum ws)).getD k (0, 0)).2 = q at *
  have g1 := outC_get t ws (k + 1) i hi
  have g2 := outC_get t ws k i hi
  have g3 := outC_get t ws k q hsl
  rw [List.getElem_set]
  have e1 : ∀ (l : List Int) (j : Nat) (hj : j < l.length), l[j] = l.getD j 0 := fun l j hj => by simp [List.getD_eq_getElem?_getD, hj]
  rw [e1 _ _ h1]
  by_cases hq : q = i
  · subst hq
    rw [if_pos rfl, g1, g3, hs, hn]; simp
  · rw [if_neg hq, e1 _ _ (by rw [outC_len]; exact hi), g1, g2, hs]
    have : (q == i) = false := by simpa using hq
    rw [this, Bool.or_false]
theorem owns_form {w : World} {base : Nat} {e : TypeId} {size n : Nat} {v : Value} {xs : List Value} (h : w.ownsRow base e size v n xs) (hn : 0 < n) : ∃ g c, v = .slice (some ⟨g, 0, none⟩) n c ∧ base ≤ g ∧ g < w.heap.size := by
  obtain ⟨_, h1 | ⟨g, c, cur, h1, h2, h3, _⟩⟩ := h
  · omega
  · refine ⟨g, c, h1, h2, ?_⟩
    rcases Nat.lt_or_ge g w.heap.size with l | l
    · exact l
    · rw [Array.getElem?_eq_none l] at h3; cases h3
set_option maxHeartbeats 400000 in
theorem sortStable_any (blk cap : Nat) (d0 : RA) (w : World) (R : RowK encR 2 w blk 0 d0) (hsz : d0.size < 1000000) (hA : Asc d0 0 d0.size) :
    Calls Tryz.prog 134 #[.slice (some ⟨blk, 0, none⟩) d0.size cap, .func (.func 135) #[] #[]] w fun e w' =>
      e = .returned (.tuple #[]) ∧ ∃ d', SWK encR 2 w blk 0 d' w' ∧ PermIn 0 d0.size d0 d' ∧ Srt d' 0 d0.size := by
  have KEY := hid (stable_any blk 0 cap d0 w R hsz w (Go.Proofs.SWK.start R.hH) hA)
  clear R hA
  obtain ⟨n, hn⟩ : ∃ n, n = d0.size := ⟨_, rfl⟩
  rw [← hn] at KEY hsz ⊢
  clear hn
  go_enter Tryz.func134, Tryz.ntmps134
  go_wp2_with fail
  refine KEY.out.mono ?_
  rintro e w2 ⟨rfl, hd⟩
  have HD := hid hd
  clear hd
  go_wp2
  go_end0
  exact ⟨rfl, HD.out⟩
theorem permIn_list {d d' : RA} (h : PermIn 0 d.size d d') : d'.toList.Perm d.toList := by
  have h2 := h.2.2
  have e : ∀ x : RA, (x.extract 0 x.size).toList = x.toList := fun x => by simp
  have hs := h.1
  rw [e d] at h2
  rw [show d'.extract 0 d.size = d'.extract 0 d'.size by rw [hs], e d'] at h2
  first | exact h2 | exact h2.symm
theorem srt_list {d : RA} (h : Srt d 0 d.size) : d.toList.Pairwise lt2 := by
  refine List.pairwise_iff_getElem.2 fun i j hi hj hij => ?_
  have := h i j (Nat.zero_le _) hij (by simpa using hj)
  rw [getElem!_pos d i (by simpa using hi), getElem!_pos d j (by simpa using hj)] at this
  simpa using this
theorem sortL_any (l : List (Int × Nat)) (g c n base : Nat) (w : World) (hn : l.length = n) (hsz : n < 1000000) (hown : w.ownsRow base 224 2 (.slice (some ⟨g, 0, none⟩) n c) n (cellsR l))
    (hA : ∀ i j, i < j → j < l.length → (l.getD i (0, 0)).2 < (l.getD j (0, 0)).2) :
    Calls Tryz.prog 134 #[.slice (some ⟨g, 0, none⟩) n c, .func (.func 135) #[] #[]] w fun e w' =>
      e = .returned (.tuple #[]) ∧ w.grownBy w' (some g) ∧ Row w' (some ⟨g, 0, none⟩) (cellsR (sortL l)) := by
  subst hn
  have hk : ∀ x, (encR x).length = 2 := encR_len
  have hlt : g < w.heap.size := by
    obtain ⟨_, h1 | ⟨g', c', cur, h1, h2, h3, _⟩⟩ := hown
    · cases h1.1
    · cases h1
      rcases Nat.lt_or_ge g w.heap.size with l | l
      · exact l
      · rw [Array.getElem?_eq_none l] at h3; cases h3
  have hH : HoldsK encR 2 w g 0 l.toArray := holdsK_of_owns (n := l.length) (cap := c) (e := 224) (base := base) hk l.toArray (by simp) (by simpa [cellsR] using hown)
  have R : RowK encR 2 w g 0 l.toArray := rowR hH hlt
  have key := sortStable_any g c l.toArray w R (by simpa using hsz) (fun i j h0 h1 h2 => by
    have h2' : j < l.length := by simpa using h2
    have := hA i j h1 h2'
    rw [getElem!_pos l.toArray i (by simp; omega), getElem!_pos l.toArray j (by simpa using h2)]
    simpa [List.getD_eq_getElem?_getD, h2', show i < l.length by omega] using this)
  rw [show l.toArray.size = l.length by simp] at key
  refine key.mono ?_
  rintro e w' ⟨rfl, d', S, p, s⟩
  refine ⟨rfl, swk_grown S, ?_⟩
  have hs : d'.size = l.toArray.size := p.1
  have h1 : d'.toList.Perm l := by
    have := permIn_list (d := l.toArray) (d' := d') (by simpa using p)
    simpa using this
  have h2 : d'.toList.Pairwise lt2 := srt_list (by rw [hs]; simpa using s)
  rw [← sortL_unique h2 h1]
  exact row_of_holdsK hk d' (S.holds hlt hH hs)
theorem restC_asc (t S : Int) (ws : List Int) (k : Nat) : ∀ i j, i < j → j < (restC t S ws k).length → ((restC t S ws k).getD i (0, 0)).2 < ((restC t S ws k).getD j (0, 0)).2 := by
  intro i j hij hj
  have e : ∀ q, q < (restC t S ws k).length → ((restC t S ws k).getD q (0, 0)).2 = q := fun q hq => by
    unfold restC at hq ⊢
    simp [List.getD_eq_getElem?_getD] at hq ⊢
    simp [hq]
  rw [e i (by omega), e j hj]; exact hij
theorem cellsR_len (l : List (Int × Nat)) : (cellsR l).length = l.length * 2 := by
  unfold cellsR
  induction l with
  | nil => rfl
  | cons x l ih => rw [List.map_cons, List.flatten_cons, List.length_append, ih]; simp [encR]; omega
theorem cellsR_get : ∀ (l : List (Int × Nat)) (k : Nat), k < l.length → (cellsR l).getD (k * 2) undef = .int .i64 (l.getD k (0, 0)).1 ∧ (cellsR l).getD (k * 2 + 1) undef = .int .i64 (l.getD k (0, 0)).2
  | [], k, h => by simp at h
  | x :: l, 0, _ => by simp [cellsR, encR]
  | x :: l, k + 1, h => by
    have ih := cellsR_get l k (by simpa using h)
    have e : cellsR (x :: l) = [.int .i64 x.1, .int .i64 x.2] ++ cellsR l := by simp [cellsR, encR]
    rw [e]
    have e1 : (k + 1) * 2 = k * 2 + 2 := by omega
    have e2 : (k + 1) * 2 + 1 = k * 2 + 1 + 2 := by omega
    rw [e1]
    have e3 : k * 2 + 2 + 1 = k * 2 + 1 + 2 := by omega
    rw [e3]
    simp only [List.getD_eq_getElem?_getD, List.cons_append, List.nil_append, List.getElem?_cons_succ] at ih ⊢
    exact ih
theorem cells_of_rests {w : World} {g : Nat} {l : List (Int × Nat)} (h : Row w (some ⟨g, 0, none⟩) (cellsR l)) {k : Nat} (hk : k < l.length) :
    w.cell? ⟨g, k * 2, none⟩ = some (.int .i64 (l.getD k (0, 0)).1) ∧ w.cell? ⟨g, k * 2 + 1, none⟩ = some (.int .i64 (l.getD k (0, 0)).2) := by
  have hl := cellsR_len l
  obtain ⟨b, off, hab, h1⟩ := h (k * 2) (by omega)
  obtain ⟨b', off', hab', h2⟩ := h (k * 2 + 1) (by omega)
  cases hab
  cases hab'
  obtain ⟨e1, e2⟩ := cellsR_get l k hk
  rw [e1, Nat.zero_add] at h1
  rw [e2, Nat.zero_add] at h2
  exact ⟨h1, h2⟩
theorem row_set_other {w : World} {g b o : Nat} {u : Value} {vs : List Value} (h : Row w (some ⟨g, 0, none⟩) vs) (hne : b ≠ g) : Row (w.setCell ⟨b, o, none⟩ u) (some ⟨g, 0, none⟩) vs := by
  intro i hi
  obtain ⟨b', off', hab, hc⟩ := h i hi
  cases hab
  refine ⟨_, _, rfl, ?_⟩
  rw [World.cell?_of_block (w := w) (by exact Below.heap_setCell w _ _ _ (Ne.symm hne))]
  exact hc
set_option maxHeartbeats 4000000 in
set_option maxRecDepth 100000 in
theorem share_good (t : Int) (ws : List Int) (a : Option Addr) (cap : Nat) (w : World) (hr : Row w a (ws.map (.int .u32))) (hp : PosRow ws) (h : ws.length ≤ 64) (hz : shareE t ws = 0) :
    Calls Tryz.prog 81 #[.int .i64 t, .slice a ws.length cap] w (ShareOut t ws w) := by
  have Hr := hid hr
  have HP : Aside (PosRow ws) := hp
  have HZ := hid hz
  have hsum0 : 0 < ws.sum := by
    have h1 : ws.sum ≠ 0 := fun e => by unfold shareE at hz; rw [if_neg (by omega), if_pos e] at hz; cases hz
    have := (take_sum_bd hp ws.length).1
    rw [List.take_length] at this; omega
  have hsum1 : ws.sum ≤ 274877906880 := by
    have := (take_sum_bd hp ws.length).2
    rw [List.take_length] at this
    have : (ws.length : Int) * 4294967295 ≤ 64 * 4294967295 := Int.mul_le_mul_of_nonneg_right (by omega) (by omega)
    omega
  obtain ⟨ht0, ht1⟩ : 0 ≤ t ∧ t ≤ 1125899906842624 := by
    unfold shareE at hz
    rw [if_neg (by omega), if_neg (by omega)] at hz
    split at hz
    · assumption
    · cases hz
  clear hr hp hz
  have h' : ¬ (64 : Int) < (ws.length : Int) := by omega
  go_enter Tryz.func81, Tryz.ntmps81
  go_wp2
  go_loop [6, 24] (fun s i => ∃ (k : Nat) (x : Int), k ≤ ws.length ∧ i = .int .i64 k ∧ s = .int .i64 x ∧ Hid (x = (ws.take k).sum) ∧ 0 ≤ x ∧ x ≤ k * 4294967295) (fun _ i => ws.length - (RowKit.intOf i).toNat)
  case atStart => exact ⟨0, 0, Nat.zero_le _, rfl, rfl, hid (by simp), by omega, by omega⟩
  case round =>
    obtain ⟨k, s, hk, rfl, rfl, hs, hs0, hs1⟩ := hrel
    by_cases hlt : k < ws.length
    · obtain ⟨b, off, rfl, hc⟩ := Hr.out.int k hlt
      have hx := posrow_get HP.out hlt
      generalize hxe : ws.getD k 0 = x at *
      have HX := hid hxe
      clear hxe
      go_wp2
      go_round
      case rel => exact ⟨k + 1, s + x, by omega, by go_num, rfl, hid (by rw [sum_take_succ hlt, ← hs.out, HX.out]), by omega, by omega⟩
      case measure => simp [RowKit.intOf]; omega
    · obtain rfl : k = ws.length := by omega
      have hsum : s = ws.sum := by rw [hs.out, List.take_length]
      have HS := hid hsum
      have hs2 : 0 < s := by omega
      have hs3 : s ≤ 274877906880 := by omega
      clear hs hsum hk hlt hs0 hs1 hsum0 hsum1
      have hz' : (s == 0) = false := by simp; omega
      have hd : decide (t < 0) = false := decide_eq_false (by omega)
      have he : (errI t != 0) = false := by simp [errI, mayI, ht1]; omega
      go_wp2_with fail
      refine (check_any _ _).mono ?_
      rintro e w1 ⟨rfl, hb1⟩
      go_wp2
      clear hz' hd he
      go_loopw [9, 10, 11, 47] (fun s9 s10 s11 s47 wr => ∃ (k : Nat) (vo vr : Value) (lf : Int), k ≤ ws.length ∧ s47 = .int .i64 k ∧ s9 = vo ∧ s10 = vr ∧ s11 = .int .i64 lf ∧ 0 ≤ lf ∧ lf ≤ t ∧ Hid (lf = t - (whC t s ws k).sum) ∧
          Aside (wr.ownsRow w.heap.size 2 1 vo k ((whC t s ws k).map (.int .i64))) ∧ Aside (wr.ownsRow w.heap.size 224 2 vr k (cellsR (restC t s ws k))) ∧ Aside (Apart vo vr) ∧ Aside (Below w.heap.size w wr)) (fun _ _ _ i _ => ws.length - (RowKit.intOf i).toNat)
      case atStart => exact ⟨0, _, _, t, Nat.zero_le _, rfl, rfl, rfl, rfl, ht0, Int.le_refl _, hid (by simp [whC]), World.ownsRow_nil _ _ _ _, World.ownsRow_nil _ _ _ _, Apart.nil _, hb1⟩
      case round =>
        clear hb1
        obtain ⟨k, vo, vr, lf, hk, rfl, rfl, rfl, rfl, hlf0, hlf1, HL, O1, R1, A1, B1⟩ := hrel
        by_cases hlt : k < ws.length
        · obtain ⟨b, off, rfl, hc⟩ := (Hr.out.kept B1.out).int k hlt
          have hx := posrow_get HP.out hlt
          have hxs : ws.getD k 0 ≤ s := by
            have e : ws.getD k 0 = ws[k] := by simp [List.getD_eq_getElem?_getD, hlt]
            rw [HS.out, e]; exact le_sum ws (fun y hy => (HP.out y hy).1) _ (List.getElem_mem hlt)
          generalize hxe : ws.getD k 0 = x at *
          have HX := hid hxe
          have hw1 := wh_bd ht0 hs2 hx.1 hxs
          have hw2 := rs_bd t s x hs2
          have hp := partOk_of ht0 ht1 hs2 hs3 hx.1 hxs
          have hlb := left_bd HP.out ht0 (by rw [← HS.out]; exact hs2) (k + 1)
          rw [← HS.out, whC_succ hlt, hxe, List.sum_append_int] at hlb
          have e1 : partW t x s = wh t s x := by unfold partW; rw [if_pos hp]; rfl
          have e2 : partR t x s = rs t s x := by unfold partR; rw [if_pos hp]; rfl
          have e3 : partE t x s = 0 := by unfold partE; rw [if_pos hp]
          have key := part_any t x s wr
          rw [e1, e2, e3] at key
          generalize hwe : wh t s x = a at *
          generalize hre : rs t s x = r at *
          have HW := hid hwe
          have HR := hid hre
          have hl2 : 0 ≤ lf - a ∧ lf - a ≤ t := by
            rw [HL.out]; simp at hlb; omega
          have KEY := hid key
          clear hxe e1 e2 e3 key hwe hre hlb hp
          go_wp2_with fail
          refine KEY.out.mono ?_
          rintro e w2 ⟨rfl, hb2⟩
          have O2 : Aside (w2.ownsRow w.heap.size 2 1 u9 k ((whC t s ws k).map (.int .i64))) := ownsRow_below O1.out hb2
          have R2 : Aside (w2.ownsRow w.heap.size 224 2 u10 k (cellsR (restC t s ws k))) := ownsRow_below R1.out hb2
          have B2 : Aside (Below w.heap.size w w2) := bt B1.out hb2
          clear O1 R1 B1 hb2 KEY
          have hmx : k + 1 ≤ maxLen := by unfold maxLen; omega
          have hm8 : (k + 1) * 8 ≤ 140737488355328 := by omega
          have hm16 : (k + 1) * 16 ≤ 140737488355328 := by omega
          have hbs : w.heap.size ≤ w2.heap.size + 1 := Nat.le_succ_of_le B2.out.size
          have H27 := i64row2
          have H76 := restrow
          have HI := hid H27
          have HR2 := hid H76
          clear H27 H76
          go_wp2_with (first
            | (at_builtin; refine wpList_append_row_at rfl (.tmp 64) (.tmp 66) 40 rfl w.heap.size 2 (.int .i64 0) 1 8 Tryz.underlying40 HI.out rfl (by decide) _ k _ rfl (World.ownsRow.alloc O2.out _) _ 1 1 [.int .i64 a] rfl (by simp) (row_new (by simp)) rfl (by simp [Value.oneCell']) hmx hm8 (by simpa using hbs) ?_; intro v1 w3 ho1 hg1 hat1)
            | (at_builtin; refine wpList_append_row_at rfl (.tmp 68) (.tmp 72) 220 rfl w.heap.size 224 (.agg #[.int .i64 0, .int .i64 0]) 2 16 Tryz.underlying220 HR2.out rfl (by decide) _ k _ rfl (World.ownsRow.alloc (ownsRow_other (World.ownsRow.alloc R2.out _) hg1 A1.out) _) _ 1 1 [.int .i64 r, .int .i64 k] rfl (by simp) (row_new (by simp)) rfl (by simp [Value.oneCell']) hmx hm16 (by have := hg1.size; simp at this ⊢; omega) ?_; intro v2 w4 ho2 hg2 hat2))
          have hg1' : (w2.alloc (.cells #[.int .i64 a] 2)).grownBy w3 u9.ownBlock := hg1
          have hat1' : v1.ownBlock = u9.ownBlock ∨ v1.ownBlock = some (w2.alloc (.cells #[.int .i64 a] 2)).heap.size := hat1
          have hg2' : (w3.alloc (.cells #[.int .i64 r, .int .i64 k] 224)).grownBy w4 u10.ownBlock := hg2
          have hat2' : v2.ownBlock = u10.ownBlock ∨ v2.ownBlock = some (w3.alloc (.cells #[.int .i64 r, .int .i64 k] 224)).heap.size := hat2
          clear hg1 hg2 hat1 hat2
          have r3 := World.ownsRow.alloc R2.out (.cells #[.int .i64 a] 2)
          have ap1 : Apart v1 u10 := apart_grown r3 A1.out hat1'
          have r4 := World.ownsRow.alloc (ownsRow_other r3 hg1' A1.out) (.cells #[.int .i64 r, .int .i64 k] 224)
          have o4 := World.ownsRow.alloc ho1 (.cells #[.int .i64 r, .int .i64 k] 224)
          have ap2 : Apart v2 v1 := apart_grown o4 ap1.symm hat2'
          have b3 : Below w.heap.size w w3 := (B2.out.alloc B2.out.size _).grown hg1' (by have := B2.out.size; simp; omega) (fun g e => (World.ownsRow.lt O2.out g e).1)
          have b4 : Below w.heap.size w w4 := (b3.alloc b3.size _).grown hg2' (by have := b3.size; simp; omega) (fun g e => (World.ownsRow.lt R2.out g e).1)
          have AP : Aside (Apart v1 v2) := ap2.symm
          have B4 : Aside (Below w.heap.size w w4) := b4
          have O4 : Aside (w4.ownsRow w.heap.size 2 1 v1 (k + 1) ((whC t s ws (k + 1)).map (.int .i64))) := by
            show World.ownsRow _ _ _ _ _ _ _
            have := ownsRow_other o4 hg2' ap1.symm
            rw [whC_succ hlt, HX.out, HW.out, List.map_append]
            exact this
          have R4 : Aside (w4.ownsRow w.heap.size 224 2 v2 (k + 1) (cellsR (restC t s ws (k + 1)))) := by
            show World.ownsRow _ _ _ _ _ _ _
            rw [restC_succ hlt, HX.out, HR.out, cellsR_snoc]
            exact ho2
          have HL2 : Hid (lf - a = t - (whC t s ws (k + 1)).sum) := by
            show _ = _
            rw [whC_succ hlt, HX.out, HW.out, List.sum_append_int, HL.out]; simp; omega
          clear hg1' hat1' hg2' hat2' ho1 ho2 r3 r4 o4 ap1 ap2 b3 b4 O2 R2 A1 B2
          go_roundw
          case measure => simp [RowKit.intOf]; omega
          case rel => exact ⟨k + 1, v1, v2, lf - a, by omega, by go_num, rfl, rfl, rfl, hl2.1, hl2.2, HL2, O4, R4, AP, B4⟩
        · obtain rfl : k = ws.length := by omega
          have hn0 : 0 < ws.length := by
            rcases Nat.eq_zero_or_pos ws.length with e | e
            · have : ws = [] := List.length_eq_zero_iff.1 e
              have h1 := HS.out
              rw [this] at h1; simp at h1; omega
            · exact e
          obtain ⟨g2, c2, hv2, hg2b, hg2l⟩ := owns_form (show wr.ownsRow w.heap.size 224 2 u10 ws.length _ from R1.out) hn0
          obtain ⟨g1, c1, hv1, hg1b, hg1l⟩ := owns_form (show wr.ownsRow w.heap.size 2 1 u9 ws.length _ from O1.out) hn0
          subst hv2 hv1
          go_wp2_with fail
          refine (sortL_any (restC t s ws ws.length) g2 c2 ws.length w.heap.size wr (restC_len (Nat.le_refl _)) (by omega) R1.out (restC_asc _ _ _ _)).mono ?_
          rintro e w2 ⟨rfl, hg, hrow⟩
          obtain ⟨L, hL⟩ : ∃ L : Nat, lf = L := ⟨lf.toNat, by omega⟩
          subst hL
          have HLN : Hid (L = leftN t s ws) := by
            have h1 := HL.out
            show _ = _
            unfold leftN
            unfold whC at h1
            rw [List.take_length] at h1; omega
          have hLn : L < ws.length := by
            have := left_lt t ws (by rw [← HS.out]; exact hs2)
            rw [HLN.out, HS.out]; exact this
          have RW : Aside (Row w2 (some ⟨g2, 0, none⟩) (cellsR (sortL (restsL t s ws)))) := by
            have e : restC t s ws ws.length = restsL t s ws := by unfold restC restsL; rw [List.take_length]
            rw [e] at hrow; exact hrow
          have hne : g1 ≠ g2 := by
            rcases A1.out with h | h | h
            · cases h
            · cases h
            · simpa [Value.ownBlock] using h
          have O2 : Aside (w2.ownsRow w.heap.size 2 1 (.slice (some ⟨g1, 0, none⟩) ws.length c1) ws.length ((outC t ws 0).map (.int .i64))) := by
            rw [outC_zero, ← HS.out]
            exact World.ownsRow.kept O1.out hg (.inr (by simpa [Value.ownBlock] using hne))
          have B2 : Aside (Below w.heap.size w w2) := B1.out.grown hg B1.out.size (fun g e => by cases e; exact hg2b)
          have hcc : ws.length ≤ c2 := by
            obtain ⟨_, h1 | ⟨g, c, cur, h1, h2, h3, h4, _⟩⟩ := R1.out
            · omega
            · cases h1; exact h4
          have hw2 := hg.size
          clear hg hrow O1 R1 A1 B1 hk hlt HL
          go_wp2
          go_loopw [84] (fun s84 wr => ∃ k : Nat, k ≤ L ∧ s84 = .int .i64 k ∧ w2.heap.size ≤ wr.heap.size ∧
            Aside (wr.ownsRow w.heap.size 2 1 (.slice (some ⟨g1, 0, none⟩) ws.length c1) ws.length ((outC t ws k).map (.int .i64))) ∧ Aside (Row wr (some ⟨g2, 0, none⟩) (cellsR (sortL (restsL t s ws)))) ∧ Aside (Below w.heap.size w wr)) (fun i _ => L - (RowKit.intOf i).toNat)
          case atStart => exact ⟨0, Nat.zero_le _, rfl, Nat.le_refl _, O2, RW, B2⟩
          case round =>
            clear O2 RW B2
            obtain ⟨k, hk, rfl, hsz, O3, R3, B3⟩ := hrel
            by_cases hlt : k < L
            · have hlS : k < (sortL (restsL t s ws)).length := by rw [sort_len]; omega
              obtain ⟨f1, f2⟩ := cells_of_rests R3.out hlS
              obtain ⟨q, hq⟩ : ∃ q, q = ((sortL (restsL t s ws)).getD k (0, 0)).2 := ⟨_, rfl⟩
              have hqn : q < ws.length := by
                have e : (sortL (restsL t s ws)).getD k (0, 0) = (sortL (restsL t s ws))[k] := by simp [List.getD_eq_getElem?_getD, hlS]
                rw [hq, e]; exact (mem_rests (List.getElem_mem hlS)).1
              rw [← hq] at f2
              generalize ((sortL (restsL t s ws)).getD k (0, 0)).1 = r at f1
              have hoc := outC_succ (t := t) (ws := ws) (k := k) (by omega)
              rw [← HS.out, ← hq] at hoc
              have f3 : wr.cell? ⟨g1, q, none⟩ = some (.int .i64 ((outC t ws k).getD q 0)) := by
                rw [World.ownsRow.cellAt O3.out q (by omega)]
                have : q < (outC t ws k).length := by rw [outC_len]; exact hqn
                simp [List.getD_eq_getElem?_getD, this]
              have f4 : wr.frozen? ⟨g1, q, none⟩ = false := World.ownsRow.frozenAt O3.out q
              have hyb : 0 ≤ (outC t ws k).getD q 0 ∧ (outC t ws k).getD q 0 ≤ t + 1 := by
                rw [outC_get _ _ _ _ hqn]
                have hx := posrow_get HP.out hqn
                have e : ws.getD q 0 = ws[q] := by simp [List.getD_eq_getElem?_getD, hqn]
                have := wh_bd (t := t) (S := ws.sum) ht0 (by rw [← HS.out]; exact hs2) hx.1 (by rw [e]; exact le_sum ws (fun y hy => (HP.out y hy).1) _ (List.getElem_mem hqn))
                split <;> omega
              generalize hye : (outC t ws k).getD q 0 = y at *
              have HOC := hid hoc
              have hg1r : g1 < wr.heap.size := by omega
              have hg2r : g2 < wr.heap.size := by omega
              clear hq hoc hye hlS
              go_wp2
              go_roundw
              case measure => simp [RowKit.intOf]; omega
              case rel =>
                refine ⟨k + 1, by omega, by go_num, by simp; omega, ?_, ?_, ?_⟩
                · refine World.ownsRow.alloc ?_ _
                  rw [HOC.out, List.map_set]
                  exact ownsRow_set O3.out q _
                · exact (row_set_other R3.out hne).kept ((Below.refl _ _).alloc (Nat.le_refl _) _)
                · exact (B3.out.setCell hg1b _).alloc (by have := B3.out.size; simpa using this) _
            · obtain rfl : k = L := by omega
              go_wp2
              go_ret2
              have e : shareV t ws = outC t ws k := by
                unfold shareV
                rw [if_pos HZ.out, HLN.out, HS.out]; rfl
              refine ⟨.slice (some ⟨g1, 0, none⟩) ws.length c1, by rw [HZ.out]; rfl, ?_, B3.out, fun h => absurd HZ.out h⟩
              rw [e, outC_len]; exact O3.out
theorem share_any (t : Int) (ws : List Int) (a : Option Addr) (cap : Nat) (w : World) (hr : Row w a (ws.map (.int .u32))) (hp : PosRow ws) (hl : ws.length ≤ 9223372036854775807) :
    Calls Tryz.prog 81 #[.int .i64 t, .slice a ws.length cap] w (ShareOut t ws w) := by
  rcases Nat.lt_or_ge 64 ws.length with h | h
  · exact share_long t ws a cap w hl h
  · by_cases hz : shareE t ws = 0
    · exact share_good t ws a cap w hr hp h hz
    · exact share_none t ws a cap w hr hp h hz
end Go.Proofs.YtmhbpifhpolghaaGreat
