/- PRORATE: the stable sort of rests, walked: SW1. -/
import Derived.Test.YtijldpkchmpjkaaRows
import Derived.Test.YtijldpkchmpjkaaBase
import Derived.Test.YtijldpkchmpjkaaSymPlain2
import Derived.BigRegion
import Derived.Deep.LoopGhost
import Derived.Shelf.SlSortCmp.KitK
namespace Go.Proofs.Ytijldpkchmpjkaa
open Go.RowKit Go.Lib Go.Tk Go.Sort Go.Shelf
attribute [-go_sem] loadCellsFrom

theorem Try.mixed : Try.prog.follows .mixedOrders = true := by kernel_rfl

set_option maxHeartbeats 400000 in
theorem compare_any (a b : Int) (w : World) : Calls Try.prog 34 #[.int .i64 a, .int .i64 b] w fun e w' => e = .returned (.int .i64 (cmpI a b)) ∧ w = w' := by
  have h63 : ∀ (x : Int) (w : World), Calls Try.prog 63 #[.int .i64 x] w fun e w' => e = .returned (.bool false) ∧ w = w' := by
    intro x w
    go_enter Try.func63, Try.ntmps63
    go_wp2
    go_ret
    exact ⟨rfl, rfl⟩
  have H := hid h63
  clear h63
  rcases Int.lt_trichotomy a b with h | rfl | h
  · have F : Hid (cmpI a b = -1) := by unfold Hid cmpI; rw [if_pos h]
    go_enter Try.func34, Try.ntmps34
    go_wp2_with (go_at_call 63; refine (H.out _ _).mono ?_; rintro e w' ⟨rfl, rfl⟩)
    go_ret
    exact ⟨ret_i (by rw [F.out]), rfl⟩
  · have F : Hid (cmpI a a = 0) := by unfold Hid cmpI; simp
    go_enter Try.func34, Try.ntmps34
    go_wp2_with (go_at_call 63; refine (H.out _ _).mono ?_; rintro e w' ⟨rfl, rfl⟩)
    go_ret
    exact ⟨ret_i (by rw [F.out]), rfl⟩
  · have F : Hid (cmpI a b = 1) := by unfold Hid cmpI; rw [if_neg (by omega), if_pos h]
    go_enter Try.func34, Try.ntmps34
    go_wp2_with (go_at_call 63; refine (H.out _ _).mono ?_; rintro e w' ⟨rfl, rfl⟩)
    go_ret
    exact ⟨ret_i (by rw [F.out]), rfl⟩

/-- a rest's cells -/
def encR (x : Int × Nat) : List Value := [.int .i64 x.1, .int .i64 x.2]

set_option maxHeartbeats 400000 in
theorem share1_any (x y : Int × Nat) (w : World) :
    Calls Try.prog 33 #[.agg (encR x).toArray, .agg (encR y).toArray] w fun e w' => e = .returned (.int .i64 (cfR x y)) ∧ (w.alloc (.cells (encR x).toArray 76)).alloc (.cells (encR y).toArray 76) = w' := by
  obtain ⟨x1, x2⟩ := x
  obtain ⟨y1, y2⟩ := y
  simp only [encR]
  go_enter Try.func33, Try.ntmps33
  go_wp2_with (go_at_call 34; refine (compare_any _ _ _).mono ?_; rintro e w' ⟨rfl, rfl⟩)
  go_ret
  exact ⟨rfl, rfl⟩

theorem encR_len (x : Int × Nat) : (encR x).length = 2 := rfl
theorem encR_one (x : Int × Nat) : ∀ v ∈ encR x, v.oneCell' = true := by simp [encR, Value.oneCell']

theorem cmp_lays (blk off size : Nat) (w : World) : Go.Proofs.CmpLays Try.prog 33 #[] encR 2 cfR blk off size w := by
  intro m os dk _ x y
  refine (share1_any x y _).mono ?_
  rintro e w' ⟨rfl, rfl⟩
  refine ⟨rfl, 0, #[.cells (encR x).toArray 76, .cells (encR y).toArray 76], ?_⟩
  rfl

theorem rowR {w : World} {blk off : Nat} {d : RA} (hH : HoldsK encR 2 w blk off d) (hb : blk < w.heap.size) : RowK encR 2 w blk off d := ⟨encR_len, encR_one, hH, hb⟩

set_option maxHeartbeats 4000000 in
set_option maxRecDepth 1000000 in
theorem swapRange_any (blk off cap a b n : Nat) (d0 d : RA) (w0 w : World) (R : RowK encR 2 w0 blk off d0) (hs : d0.size = d.size) (S : SWK encR 2 w0 blk off d w)
    (hab : a + n ≤ b) (hb : b + n ≤ d.size) (hsz : d.size < 4611686018427387904) :
    Calls Try.prog 73 #[.slice (some ⟨blk, off, none⟩) d.size cap, .int .i64 a, .int .i64 b, .int .i64 n, .func (.func 33) #[] #[]] w fun e w' =>
      e = .returned (.tuple #[]) ∧ SWK encR 2 w0 blk off (swapR d a b n) w' := by
  have mixed := Try.mixed
  have S0 : Aside (SWK encR 2 w0 blk off d w) := S
  clear S
  go_enter Try.func73, Try.ntmps73
  go_wp2
  go_loopg [10] n (fun kx s10 wr => ∃ i : Nat, s10 = .int .i64 i ∧ i ≤ n ∧ n - i ≤ kx ∧ Aside (SWK encR 2 w0 blk off (swapR d a b i) wr))
  case atStart => exact ⟨0, rfl, by omega, by omega, S0⟩
  case round =>
    clear S0
    obtain ⟨i, rfl, hin, hkx, S1⟩ := hrel
    by_cases hlt : i < n
    · have hltz : (i : Int) < (n : Int) := by omega
      obtain ⟨dk, hdk⟩ : ∃ dk, dk = swapR d a b i := ⟨_, rfl⟩
      have hds : dk.size = d.size := by rw [hdk]; exact size_swapR d a b i
      have HD : Hid (dk = swapR d a b i) := hdk
      rw [← hdk] at S1
      clear hdk
      go_wp2_with fail
      have ea : ((a : Int) + (i : Int)).toNat = a + i := by omega
      have pa : (0 : Int) ≤ (a : Int) + (i : Int) := by omega
      have ba : (a : Int) + (i : Int) < (d.size : Int) := by omega
      have ra : IntKind.i64.wrap ((a : Int) + (i : Int)) = (a : Int) + (i : Int) := by rw [IntKind.wrap_i64]; omega
      have eb : ((b : Int) + (i : Int)).toNat = b + i := by omega
      have pb : (0 : Int) ≤ (b : Int) + (i : Int) := by omega
      have bb : (b : Int) + (i : Int) < (d.size : Int) := by omega
      have rb : IntKind.i64.wrap ((b : Int) + (i : Int)) = (b : Int) + (i : Int) := by rw [IntKind.wrap_i64]; omega
      have S2 : Aside (SWK encR 2 w0 blk off (swp dk (a + i) (b + i)) ((wr.drew.setCells blk (off + (a + i) * 2) (encR dk[b + i]!)).setCells blk (off + (b + i) * 2) (encR dk[a + i]!))) := S1.out.swapped R (a + i) (b + i) (by omega) (by omega)
      have l1 := S1.out.ld1 R (by omega) Try.prog (a + i) (by omega)
      have l2 := S1.out.ld1 R (by omega) Try.prog (b + i) (by omega)
      have s1 := S1.out.st1 R (by omega) Try.prog (a + i) (by omega) dk[b + i]!
      have s2 := S1.out.st2 R (by omega) Try.prog (a + i) (b + i) (by omega) (by omega) dk[b + i]! dk[a + i]!
      have n1 : (encR dk[a + i]!).length = 2 := R.hk _
      have n2 : (encR dk[b + i]!).length = 2 := R.hk _
      generalize encR dk[a + i]! = cI at S2 l1 s2 n1
      generalize encR dk[b + i]! = cJ at S2 l2 s1 s2 n2
      clear S1
      go_wp2_with fail
      go_big_region_o
      clear l1 l2 s1 s2
      generalize (wr.drew.setCells blk (off + (a + i) * 2) cJ).setCells blk (off + (b + i) * 2) cI = w2 at S2 ⊢
      go_wp2
      go_roundg (n - (i + 1))
      case measure => omega
      case rel =>
        refine ⟨i + 1, by go_num, by omega, Nat.le_refl _, ?_⟩
        have : swapR d a b (i + 1) = swp dk (a + i) (b + i) := by rw [HD.out]; rfl
        rw [this]; exact S2
    · have hnot : ¬ (i : Int) < (n : Int) := by omega
      have : i = n := by omega
      subst this
      go_wp2
      go_end0
      exact ⟨rfl, S1.out⟩
end Go.Proofs.Ytijldpkchmpjkaa
