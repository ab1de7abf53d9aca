/- ProrateExact, ProrateTimes, ProrateEqual: totals that come out even; weights taken some times; equal weights. -/
import Derived.Test.YtijldpkchmpjkaaProTells
import Derived.Test.YtijldpkchmpjkaaProLaw2
import Derived.Deep.LoopGhost
namespace Go.Proofs.Ytijldpkchmpjkaa
open Go.RowKit Go.Lib Go.Tk Go.Sort Go.Shelf

theorem wf16p {a : Int} (h : (Lit.int .u16 a).wf = true) : 0 ≤ a ∧ a ≤ 65535 := by
  simpa [Lit.wf, IntKind.min, IntKind.max, IntKind.signed, IntKind.bits] using h

theorem sum_le_mul (l : List Int) (h : ∀ x ∈ l, 0 ≤ x ∧ x ≤ 65535) : 0 ≤ l.sum ∧ l.sum ≤ l.length * 65535 := by
  refine ⟨sum_nonneg _ (fun x hx => (h x hx).1), ?_⟩
  have := sum_le (fun x : Int => x) (fun _ => 65535) l (fun x hx => (h x hx).2)
  rw [sum_const, List.map_id'] at this; exact this

theorem take_map_snoc {α : Type} (f : Int → α) (l : List Int) {k : Nat} (h : k < l.length) : (l.take (k + 1)).map f = (l.take k).map f ++ [f (l.getD k 0)] := by
  rw [List.take_succ_eq_append_getElem h, List.map_append]; simp [List.getD_eq_getElem?_getD, h]

theorem row_cell {K : IntKind} {w w' : World} {b off : Nat} {xs : List Int} (hr : Row w (some ⟨b, off, none⟩) (xs.map (.int K))) (hb : Below w.heap.size w w') {k : Nat} (hk : k < xs.length) {x : Int} (hx : xs.getD k 0 = x) : w'.cell? ⟨b, off + k, none⟩ = some (.int K x) := by
  obtain ⟨b', off', hab, hc⟩ := (hr.kept hb).int k hk
  cases hab
  rw [hc, hx]

theorem exact_val {ws : List Int} {k : Int} (hp : ∀ x ∈ ws, 0 ≤ x ∧ x ≤ 65535) (hl : ws.length ≤ 64) (hk : 0 ≤ k ∧ k ≤ 65535) (hS : 0 < ws.sum) : shareE (ws.sum * k) ws = 0 ∧ shareV (ws.sum * k) ws = ws.map fun x => x * k := by
  have h1 := sum_le_mul ws hp
  have h2 : ws.sum * k ≤ 4194240 * 65535 := by
    have a1 : ws.sum ≤ 4194240 := by omega
    exact Int.le_trans (Int.mul_le_mul_of_nonneg_left hk.2 h1.1) (Int.mul_le_mul_of_nonneg_right a1 (by decide))
  have h3 : 0 ≤ ws.sum * k := Int.mul_nonneg h1.1 hk.1
  have e : shareE (ws.sum * k) ws = 0 := by unfold shareE; rw [if_neg (by omega), if_neg (by omega), if_pos ⟨h3, by omega⟩]
  exact ⟨e, by unfold shareV; rw [if_pos e, exact_share ws k hS]⟩

set_option maxHeartbeats 4000000 in
set_option maxRecDepth 100000 in
theorem exact_walk (a : Option Addr) (len cap : Nat) (zs : List Int) (q : Int) (w : World) (hrow : IsRow .u16 w a len cap zs) (wq : (Lit.int .u16 q).wf = true) :
    Calls Try.prog 5 #[.slice a len cap, .int .u16 q] w fun e w' => e = .returned (.bool true) ∧ Below w.heap.size w w' := by
  obtain ⟨xs, rfl, hr, hm, hc, hwf⟩ := hrow.row
  unfold maxLen at hm
  have Hr := hid hr
  have HP : Aside (∀ x ∈ xs, 0 ≤ x ∧ x ≤ 65535) := fun x hx => wf16p (hwf x hx)
  obtain ⟨q0, q1⟩ := wf16p wq
  clear hr hc hrow hwf wq
  by_cases hl : 64 < xs.length
  · have hl' : (64 : Int) < (xs.length : Int) := by omega
    go_enter Try.func5, Try.ntmps5
    go_wp2_with fail
    refine (wakes6 _).mono ?_
    rintro e w4 ⟨rfl, k4⟩
    go_wp2
    go_ret
    exact ⟨rfl, k4⟩
  have hl' : ¬ (64 : Int) < (xs.length : Int) := by omega
  have hmx : ∀ k, k < xs.length → k + 1 ≤ maxLen := fun k _ => by unfold maxLen; omega
  have HMX := hid hmx
  have HI := hid u32row
  clear hmx
  go_enter Try.func5, Try.ntmps5
  go_wp2
  go_loopw [5, 6, 7] (fun s5 s6 s7 wr => ∃ (k : Nat) (v : Value) (x : Int), k ≤ xs.length ∧ s7 = .int .i64 k ∧ s5 = v ∧ s6 = .int .i64 x ∧ 0 ≤ x ∧ x ≤ k * 65535 ∧ Hid (x = (xs.take k).sum) ∧ Aside (wr.ownsRow w.heap.size 26 1 v k ((xs.take k).map (.int .u32))) ∧ Aside (Below w.heap.size w wr)) (fun _ _ i _ => xs.length - (intOf i).toNat)
  case atStart => exact ⟨0, _, 0, Nat.zero_le _, rfl, rfl, rfl, by omega, by omega, hid (by simp), World.ownsRow_nil _ _ _ _, Below.refl _ _⟩
  case round =>
    obtain ⟨k, v, s, hk, rfl, rfl, rfl, hs0, hs1, HSM, O1, B1⟩ := hrel
    by_cases hlt : k < xs.length
    · obtain ⟨b, off, rfl, hc⟩ := (Hr.out.kept B1.out).int k hlt
      have e : xs.getD k 0 = xs[k] := by simp [List.getD_eq_getElem?_getD, hlt]
      have hx : 0 ≤ xs.getD k 0 ∧ xs.getD k 0 ≤ 65535 := by rw [e]; exact HP.out _ (List.getElem_mem hlt)
      have hsn := take_map_snoc (Value.int .u32) xs hlt
      have hsum := sum_take_succ hlt
      have HSN := hid hsn
      have HSU := hid hsum
      clear e hsn hsum
      generalize hxe : xs.getD k 0 = x at *
      have HX := hid hxe
      clear hxe
      have hm1 := HMX.out k hlt
      have hm4 : (k + 1) * 4 ≤ 140737488355328 := by omega
      have hbs : w.heap.size ≤ wr.heap.size + 1 := Nat.le_succ_of_le B1.out.size
      go_wp2_with (at_builtin; refine wpList_append_row_at rfl _ _ 25 rfl w.heap.size 26 (.int .u32 0) 1 4 Try.underlying25 HI.out rfl (by decide) _ k _ rfl (World.ownsRow.alloc O1.out _) _ 1 1 [.int .u32 x] rfl (by simp) (row_new (by simp)) rfl (by simp [Value.oneCell']) hm1 hm4 (by simpa using hbs) ?_; intro v1 w3 ho1 hg1 hat1; have B3 : Aside (Below w.heap.size w w3) := (B1.out.alloc B1.out.size _).grown hg1 (by have := B1.out.size; simp; omega) (fun g e => (World.ownsRow.lt O1.out g e).1); have c3 := row_cell Hr.out B3.out hlt HX.out)
      have O3 : Aside (w3.ownsRow w.heap.size 26 1 v1 (k + 1) ((xs.take (k + 1)).map (.int .u32))) := by
        show World.ownsRow _ _ _ _ _ _ _
        rw [HSN.out]; exact ho1
      clear hg1 hat1 ho1 O1 B1 c3 hc
      go_roundw
      case measure => simp [intOf]; omega
      case rel => exact ⟨k + 1, v1, s + x, by omega, by go_num, rfl, rfl, by omega, by omega, hid (by rw [HSU.out, HSM.out]), O3, B3⟩
    · obtain rfl : k = xs.length := by omega
      have hsum : s = xs.sum := by rw [HSM.out, List.take_length]
      obtain ⟨a1, c1, hv, hr1, -⟩ := row_of_owns (show wr.ownsRow w.heap.size 26 1 u5 xs.length _ from O1.out)
      rw [List.take_length] at hr1
      have HR1 := hid hr1
      have HS := hid hsum
      subst hv
      have hsq : 0 ≤ s * q ∧ s * q ≤ 4194240 * 65535 := by
        refine ⟨Int.mul_nonneg hs0 q0, ?_⟩
        exact Int.le_trans (Int.mul_le_mul_of_nonneg_left q1 hs0) (Int.mul_le_mul_of_nonneg_right (show s ≤ 4194240 by omega) (by decide))
      have KEY := hid (share_row (s * q) xs a1 _ c1 wr rfl HR1.out (fun x hx => by have := HP.out x hx; omega) hm)
      by_cases hz : s = 0
      · have hez : shareE 0 xs = 60 := by unfold shareE; rw [if_neg hl, if_pos (by rw [← hsum, hz])]
        have hV := shareV_bad (t := 0) (ws := xs) (by rw [hez]; decide)
        have KEY0 := hid (share_row 0 xs a1 _ c1 wr rfl HR1.out (fun x hx => by have := HP.out x hx; omega) hm)
        have HE := hid hez
        have HV := hid hV
        subst hz
        clear hr1 hsum hez hV O1 hk hlt KEY
        go_wp2_with fail
        refine KEY0.out.mono ?_
        rintro e w2 ⟨a2, c2, rfl, r2, hb2, m2⟩
        rw [HV.out, HE.out]
        clear r2 m2
        go_wp2_with fail
        refine (wakes6 _).mono ?_
        rintro e w4 ⟨rfl, k4⟩
        go_wp2
        go_ret
        exact ⟨rfl, bt (bt B1.out hb2) k4⟩
      · obtain ⟨hez, hV⟩ := exact_val HP.out (by omega) ⟨q0, q1⟩ (show 0 < xs.sum by omega)
        rw [← hsum] at hez hV
        have hlen := shareV_len hez
        have HE := hid hez
        have HV := hid hV
        have hz1 : (s == 0) = false := by simpa using hz
        clear hr1 hsum hez hV O1 hk hlt hz
        go_wp2_with fail
        refine KEY.out.mono ?_
        rintro e w2 ⟨a2, c2, rfl, r2, hb2, m2⟩
        rw [hlen, HE.out]
        rw [HV.out] at r2
        have R2 := hid r2
        have B2 : Aside (Below w.heap.size w w2) := bt B1.out hb2
        have R1 := hid (HR1.out.kept hb2)
        clear r2 m2 hlen hb2 KEY B1
        go_wp2
        go_loopw [10] (fun s10 wr => ∃ k : Nat, k ≤ xs.length ∧ s10 = .int .i64 k ∧ Aside (Below w2.heap.size w2 wr)) (fun i _ => xs.length - (intOf i).toNat)
        case atStart => exact ⟨0, Nat.zero_le _, rfl, Below.refl _ _⟩
        case round =>
          obtain ⟨k, hk, rfl, hb⟩ := hrel
          by_cases hlt : k < xs.length
          · obtain ⟨b1, o1, rfl, c1⟩ := (R2.out.kept hb.out).int k (by simpa using hlt)
            obtain ⟨b2, o2, rfl, c2⟩ := (R1.out.kept hb.out).int k hlt
            have e : xs.getD k 0 = xs[k] := by simp [List.getD_eq_getElem?_getD, hlt]
            have hx : 0 ≤ xs.getD k 0 ∧ xs.getD k 0 ≤ 65535 := by rw [e]; exact HP.out _ (List.getElem_mem hlt)
            have hg : (xs.map fun x => x * q).getD k 0 = xs.getD k 0 * q := by simp [List.getD_eq_getElem?_getD, hlt]
            rw [hg] at c1
            generalize xs.getD k 0 = x at *
            have hxq : 0 ≤ x * q ∧ x * q ≤ 65535 * 65535 := ⟨Int.mul_nonneg hx.1 q0, Int.le_trans (Int.mul_le_mul_of_nonneg_left q1 hx.1) (Int.mul_le_mul_of_nonneg_right hx.2 (by decide))⟩
            have p0 : (0 : Int) ≤ (k : Int) := by omega
            have p1 : (k : Int) < (xs.length : Int) := by omega
            clear e hg
            go_wp2_with fail
            go_region
            go_wp2
            go_roundw
            case measure => simp [intOf]; omega
            case rel => exact ⟨k + 1, by omega, by go_num, hb.out.drew⟩
          · obtain rfl : k = xs.length := by omega
            go_wp2_with fail
            refine (wakes6 _).mono ?_
            rintro e w4 ⟨rfl, k4⟩
            go_wp2
            go_ret
            exact ⟨rfl, bt (bt B2.out hb.out) k4⟩
end Go.Proofs.Ytijldpkchmpjkaa
