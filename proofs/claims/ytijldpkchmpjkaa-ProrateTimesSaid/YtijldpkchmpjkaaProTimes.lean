/- ProrateTimes: weights that are all taken some times have the same shares. -/
import Derived.Test.YtijldpkchmpjkaaProExact
namespace Go.Proofs.Ytijldpkchmpjkaa
open Go.RowKit Go.Lib Go.Tk Go.Sort Go.Shelf

theorem times_same (t : Int) (ws : List Int) (k : Int) (hk : 0 < k) : shareE t (ws.map fun x => x * k) = shareE t ws ∧ shareV t (ws.map fun x => x * k) = shareV t ws := by
  have hs := sum_map_mulR k ws
  have e : shareE t (ws.map fun x => x * k) = shareE t ws := by
    unfold shareE
    rw [hs, List.length_map]
    have : (ws.sum * k = 0) ↔ (ws.sum = 0) := by
      constructor
      · intro h
        rcases Int.mul_eq_zero.1 h with h | h
        · exact h
        · omega
      · intro h; rw [h, Int.zero_mul]
    simp only [this]
  exact ⟨e, by unfold shareV; rw [e, times_share t ws k hk]⟩

set_option maxHeartbeats 4000000 in
set_option maxRecDepth 100000 in
theorem times_walk (t : Int) (a : Option Addr) (len cap : Nat) (zs : List Int) (q : Int) (w : World) (_wt : (Lit.int .i64 t).wf = true) (hrow : IsRow .u16 w a len cap zs) (wq : (Lit.int .u16 q).wf = true) :
    Calls Try.prog 3 #[.int .i64 t, .slice a len cap, .int .u16 q] w fun e w' => e = .returned (.bool true) ∧ Below w.heap.size w w' := by
  obtain ⟨xs, rfl, hr, hm, hc, hwf⟩ := hrow.row
  unfold maxLen at hm
  have Hr := hid hr
  have HP : Aside (∀ x ∈ xs, 0 ≤ x ∧ x ≤ 65535) := fun x hx => wf16p (hwf x hx)
  obtain ⟨q0, q1⟩ := wf16p wq
  clear hr hc hrow hwf wq
  by_cases hl : 64 < xs.length
  · have hl' : (64 : Int) < (xs.length : Int) := by omega
    go_enter Try.func3, Try.ntmps3
    go_wp2_with fail
    refine (wakes6 _).mono ?_
    rintro e w4 ⟨rfl, k4⟩
    go_wp2
    go_ret
    exact ⟨rfl, k4⟩
  have hl' : ¬ (64 : Int) < (xs.length : Int) := by omega
  by_cases hq : q = 0
  · subst hq
    go_enter Try.func3, Try.ntmps3
    go_wp2_with fail
    refine (wakes6 _).mono ?_
    rintro e w4 ⟨rfl, k4⟩
    go_wp2
    go_ret
    exact ⟨rfl, k4⟩
  have hq2 : (q == 0) = false := by simpa using hq
  have hq3 : 0 < q := by omega
  have hmx : ∀ k, k < xs.length → k + 1 ≤ maxLen := fun k _ => by unfold maxLen; omega
  have HMX := hid hmx
  have HI := hid u32row
  clear hmx hq
  go_enter Try.func3, Try.ntmps3
  go_wp2
  go_loopw [7, 8, 9] (fun s7 s8 s9 wr => ∃ (k : Nat) (v u : Value), k ≤ xs.length ∧ s9 = .int .i64 k ∧ s7 = v ∧ s8 = u ∧ Aside (wr.ownsRow w.heap.size 26 1 v k ((xs.take k).map (.int .u32))) ∧ Aside (wr.ownsRow w.heap.size 26 1 u k ((xs.take k).map (fun x => .int .u32 (x * q)))) ∧ Aside (Apart v u) ∧ Aside (Below w.heap.size w wr)) (fun _ _ i _ => xs.length - (intOf i).toNat)
  case atStart => exact ⟨0, _, _, Nat.zero_le _, rfl, rfl, rfl, World.ownsRow_nil _ _ _ _, World.ownsRow_nil _ _ _ _, Apart.nil _, Below.refl _ _⟩
  case round =>
    obtain ⟨k, v, u, hk, rfl, rfl, rfl, O1, R1, A1, B1⟩ := hrel
    by_cases hlt : k < xs.length
    · obtain ⟨b, off, rfl, hc⟩ := (Hr.out.kept B1.out).int k hlt
      have e : xs.getD k 0 = xs[k] := by simp [List.getD_eq_getElem?_getD, hlt]
      have hx : 0 ≤ xs.getD k 0 ∧ xs.getD k 0 ≤ 65535 := by rw [e]; exact HP.out _ (List.getElem_mem hlt)
      have hsn := take_map_snoc (Value.int .u32) xs hlt
      have hsn2 := take_map_snoc (fun x => Value.int .u32 (x * q)) xs hlt
      have HSN := hid hsn
      have HSN2 := hid hsn2
      clear e hsn hsn2
      generalize hxe : xs.getD k 0 = x at *
      have HX := hid hxe
      clear hxe
      have hxq : 0 ≤ x * q ∧ x * q ≤ 4294836225 := ⟨Int.mul_nonneg hx.1 q0, Int.le_trans (Int.mul_le_mul_of_nonneg_left q1 hx.1) (Int.mul_le_mul_of_nonneg_right hx.2 (by decide))⟩
      have hm1 := HMX.out k hlt
      have hm4 : (k + 1) * 4 ≤ 140737488355328 := by omega
      have hbs : w.heap.size ≤ wr.heap.size + 1 := Nat.le_succ_of_le B1.out.size
      go_wp2_with (first
        | (at_builtin; refine wpList_append_row_at rfl (.tmp 29) (.tmp 35) 25 rfl w.heap.size 26 (.int .u32 0) 1 4 Try.underlying25 HI.out rfl (by decide) _ k _ rfl (World.ownsRow.alloc O1.out _) _ 1 1 [.int .u32 x] rfl (by simp) (row_new (by simp)) rfl (by simp [Value.oneCell']) hm1 hm4 (by simpa using hbs) ?_; intro v1 w3 ho1 hg1 hat1; have B3 : Aside (Below w.heap.size w w3) := (B1.out.alloc B1.out.size _).grown hg1 (by have := B1.out.size; simp; omega) (fun g e => (World.ownsRow.lt O1.out g e).1); have c3 := row_cell Hr.out B3.out hlt HX.out)
        | (at_builtin; refine wpList_append_row_at rfl (.tmp 37) (.tmp 46) 25 rfl w.heap.size 26 (.int .u32 0) 1 4 Try.underlying25 HI.out rfl (by decide) _ k _ rfl (World.ownsRow.alloc (ownsRow_other (World.ownsRow.alloc R1.out _) hg1 A1.out) _) _ 1 1 [.int .u32 (x * q)] rfl (by simp) (row_new (by simp)) rfl (by simp [Value.oneCell']) hm1 hm4 (by have := hg1.size; simp at this ⊢; omega) ?_; intro v2 w4 ho2 hg2 hat2))
      have hg1' : (wr.alloc (.cells #[.int .u32 x] 26)).grownBy w3 u7.ownBlock := hg1
      have hat1' : v1.ownBlock = u7.ownBlock ∨ v1.ownBlock = some (wr.alloc (.cells #[.int .u32 x] 26)).heap.size := hat1
      have hg2' : (w3.alloc (.cells #[.int .u32 (x * q)] 26)).grownBy w4 u8.ownBlock := hg2
      have hat2' : v2.ownBlock = u8.ownBlock ∨ v2.ownBlock = some (w3.alloc (.cells #[.int .u32 (x * q)] 26)).heap.size := hat2
      clear hg1 hg2 hat1 hat2
      have r3 := World.ownsRow.alloc R1.out (.cells #[.int .u32 x] 26)
      have ap1 : Apart v1 u8 := apart_grown r3 A1.out hat1'
      have o4 := World.ownsRow.alloc ho1 (.cells #[.int .u32 (x * q)] 26)
      have ap2 : Apart v2 v1 := apart_grown o4 ap1.symm hat2'
      have b4 : Below w.heap.size w w4 := (B3.out.alloc B3.out.size _).grown hg2' (by have := B3.out.size; simp; omega) (fun g e => (World.ownsRow.lt R1.out g e).1)
      have AP : Aside (Apart v1 v2) := ap2.symm
      have B4 : Aside (Below w.heap.size w w4) := b4
      have O4 : Aside (w4.ownsRow w.heap.size 26 1 v1 (k + 1) ((xs.take (k + 1)).map (.int .u32))) := by
        show World.ownsRow _ _ _ _ _ _ _
        have := ownsRow_other o4 hg2' ap1.symm
        rw [HSN.out]; exact this
      have R4 : Aside (w4.ownsRow w.heap.size 26 1 v2 (k + 1) ((xs.take (k + 1)).map (fun x => .int .u32 (x * q)))) := by
        show World.ownsRow _ _ _ _ _ _ _
        rw [HSN2.out]; exact ho2
      clear hg1' hat1' hg2' hat2' ho1 ho2 r3 o4 ap1 ap2 b4 O1 R1 A1 B1 B3 c3 hc
      go_roundw
      case measure => simp [intOf]; omega
      case rel => exact ⟨k + 1, v1, v2, by omega, by go_num, rfl, rfl, O4, R4, AP, B4⟩
    · obtain rfl : k = xs.length := by omega
      obtain ⟨a1, c1, hv, hr1, -⟩ := row_of_owns (show wr.ownsRow w.heap.size 26 1 u7 xs.length _ from O1.out)
      obtain ⟨a2, c2, hu, hr2, -⟩ := row_of_owns (show wr.ownsRow w.heap.size 26 1 u8 xs.length _ from R1.out)
      rw [List.take_length] at hr1 hr2
      have HR1 := hid hr1
      have HR2 := hid (show Row wr a2 ((xs.map fun x => x * q).map (.int .u32)) by rw [List.map_map]; exact hr2)
      subst hv hu
      have hts := times_same t xs q hq3
      have HT := hid hts
      have HP2 : Aside (PosRow (xs.map fun x => x * q)) := fun y hy => by
        obtain ⟨x, hx, rfl⟩ := List.mem_map.1 hy
        have := HP.out x hx
        exact ⟨Int.mul_nonneg this.1 q0, Int.le_trans (Int.mul_le_mul_of_nonneg_left q1 this.1) (Int.le_trans (Int.mul_le_mul_of_nonneg_right this.2 (by decide)) (by decide))⟩
      clear hr1 hr2 hts O1 R1 A1 hk hlt
      go_wp2_with fail
      refine (share_row t xs a1 _ c1 wr rfl HR1.out (fun x hx => by have := HP.out x hx; omega) hm).mono ?_
      rintro e w2 ⟨a3, c3, rfl, r3, hb3, m3⟩
      have R3 := hid r3
      have B2 : Aside (Below w.heap.size w w2) := bt B1.out hb3
      have HR2' := hid (HR2.out.kept hb3)
      clear r3 hb3 HR1 HR2 B1
      go_wp2_with fail
      refine (share_row t (xs.map fun x => x * q) a2 _ c2 w2 (by simp) HR2'.out HP2.out (by simpa using hm)).mono ?_
      rintro e w3 ⟨a4, c4, rfl, r4, hb4, m4⟩
      rw [HT.out.1, HT.out.2]
      rw [HT.out.2] at r4
      have R4 := hid r4
      have R3' := hid (R3.out.kept hb4)
      have B3 : Aside (Below w.heap.size w w3) := bt B2.out hb4
      clear r4 hb4 R3 B2 HR2' m4
      unfold maxLen at m3
      generalize shareE t xs = E
      generalize shareV t xs = V at *
      go_wp2
      go_loopw [14] (fun s14 wr => ∃ k : Nat, k ≤ V.length ∧ s14 = .int .i64 k ∧ Aside (Below w3.heap.size w3 wr)) (fun i _ => V.length - (intOf i).toNat)
      case atStart => exact ⟨0, Nat.zero_le _, rfl, Below.refl _ _⟩
      case round =>
        obtain ⟨k, hk, rfl, hb⟩ := hrel
        by_cases hlt : k < V.length
        · obtain ⟨b1, o1, rfl, c1⟩ := (R3'.out.kept hb.out).int k hlt
          obtain ⟨b2, o2, rfl, c2⟩ := (R4.out.kept hb.out).int k hlt
          generalize V.getD k 0 = x at *
          have p0 : (0 : Int) ≤ (k : Int) := by omega
          have p1 : (k : Int) < (V.length : Int) := by omega
          go_wp2_with fail
          go_region
          go_wp2
          go_roundw
          case measure => simp [intOf]; omega
          case rel => exact ⟨k + 1, by omega, by go_num, hb.out.drew⟩
        · obtain rfl : k = V.length := by omega
          go_wp2_with fail
          refine (wakes6 _).mono ?_
          rintro e w4 ⟨rfl, k4⟩
          go_wp2
          go_ret
          exact ⟨rfl, bt (bt B3.out hb.out) k4⟩
end Go.Proofs.Ytijldpkchmpjkaa
