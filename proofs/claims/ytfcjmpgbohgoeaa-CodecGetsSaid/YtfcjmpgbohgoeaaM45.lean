/- Cr1, Cr2. -/
import Derived.Test.YtfcjmpgbohgoeaaCo29
import Derived.Test.YtfcjmpgbohgoeaaSxA
section
namespace Go.Proofs.Ytfcjmpgbohgoeaa
open Go.RowKit Go.Lib Go.Tk Go.Shelf Go.Vc Go.Sx
set_option linter.unusedVariables false
set_option linter.unusedSimpArgs false
def rdS (D : Chunk) (σ : WS) : SC := .fam fun b _ => rdC D b σ
theorem value_ok (D : Chunk) (σ : WS) (n : Nat) (hn : n ≤ 8) (hb : σ.bs.length ≤ 1000000) : CallOK Try.prog 33 [.ptr 0 0 0, .val (.int .i64 n)] [] [((0, 0), rdS D σ)] (.val (.int .u64 (rval σ n))) [((0, 0), rdS D (rtake σ n))] :=
  fun ε R w hM => (rvalue_at D (ε 0 0).1 σ n R w hM hn hb).mono (by rintro e w' ⟨rfl, hm⟩; exact ⟨fun _ => default, rfl, hm⟩)
theorem tick_ok (D : Chunk) (σ : WS) (hb : σ.bs.length ≤ 1000000) : CallOK Try.prog 50 [.ptr 0 0 0] [] [((0, 0), rdS D σ)] (.agg [.val (.int .u8 (rtick σ).1.c), .val (.int .u64 (rtick σ).1.r)]) [((0, 0), rdS D (rtick σ).2)] :=
  fun ε R w hM => (rtick_at D (ε 0 0).1 σ R w hM hb).mono (by rintro e w' ⟨rfl, hm⟩; exact ⟨fun _ => default, rfl, hm⟩)
theorem leg_ok (D : Chunk) (σ : WS) (hb : σ.bs.length ≤ 1000000) : CallOK Try.prog 53 [.ptr 0 0 0] [] [((0, 0), rdS D σ)] (.agg [.val (.int .u8 (rleg σ).1.c), .val (.int .u16 (rleg σ).1.f), .val (.int .u32 (rleg σ).1.x)]) [((0, 0), rdS D (rleg σ).2)] :=
  fun ε R w hM => (rleg_at D (ε 0 0).1 σ R w hM hb).mono (by rintro e w' ⟨rfl, hm⟩; exact ⟨fun _ => default, rfl, hm⟩)
theorem rtick_len (σ : WS) : (rtick σ).2.bs.length ≤ σ.bs.length := Nat.le_trans (rtake_len _ _) (rtake_len _ _)
theorem rleg_len (σ : WS) : (rleg σ).2.bs.length ≤ σ.bs.length := Nat.le_trans (rtake_len _ _) (Nat.le_trans (rtake_len _ _) (rtake_len _ _))
def rm2 (σ : WS) := rtick (rtake σ 1)
def rm3 (σ : WS) := rtake (rm2 σ).2 1
def rm4 (σ : WS) := rleg (rm3 σ)
def rm5 (σ : WS) := rtake (rm4 σ).2 8
def rm6 (σ : WS) := rtake (rm5 σ) 1
def rm7 (σ : WS) := rtake (rm6 σ) 4
def rm8 (σ : WS) := rtake (rm7 σ) 8
theorem rmsg_ok (D : Chunk) (σ : WS) (hb : σ.bs.length ≤ 1000000) : CallOK Try.prog 35 [.ptr 0 0 0] [] [((0, 0), rdS D σ)]
    (.agg [.val (.int .u8 (IntKind.u8.wrap (rval σ 1))), .val (.int .u8 (rm2 σ).1.c), .val (.int .u64 (rm2 σ).1.r), .val (.int .u8 (IntKind.u8.wrap (rval (rm2 σ).2 1))), .val (.int .u8 (rm4 σ).1.c), .val (.int .u16 (rm4 σ).1.f), .val (.int .u32 (rm4 σ).1.x),
      .val (.int .i64 (IntKind.i64.wrap (rval (rm4 σ).2 8))), .val (.int .u8 (IntKind.u8.wrap (rval (rm5 σ) 1))), .val (.int .u32 (IntKind.u32.wrap (rval (rm6 σ) 4))), .val (.int .i64 (IntKind.i64.wrap (rval (rm7 σ) 8))), .val (.int .i64 (IntKind.i64.wrap (rval (rm8 σ) 8)))]) [((0, 0), rdS D (rtake (rm8 σ) 8))] := by
  have h1 := rtake_len σ 1
  have h2 : (rm2 σ).2.bs.length ≤ _ := rtick_len (rtake σ 1)
  have h3 : (rm3 σ).bs.length ≤ _ := rtake_len (rm2 σ).2 1
  have h4 : (rm4 σ).2.bs.length ≤ _ := rleg_len (rm3 σ)
  have h5 : (rm5 σ).bs.length ≤ _ := rtake_len (rm4 σ).2 8
  have h6 : (rm6 σ).bs.length ≤ _ := rtake_len (rm5 σ) 1
  have h7 : (rm7 σ).bs.length ≤ _ := rtake_len (rm6 σ) 4
  have h8 : (rm8 σ).bs.length ≤ _ := rtake_len (rm7 σ) 8
  refine callOK_intro (by kernel_rfl) fun eb R => ?_
  exact leaf_end calNone false 200 [hC 2 1 (value_ok D σ 1 (by omega) hb), hC 3 1 (tick_ok D (rtake σ 1) (by omega)), hC 4 1 (value_ok D (rm2 σ).2 1 (by omega) (by omega)), hC 5 1 (leg_ok D (rm3 σ) (by omega)), hC 6 1 (value_ok D (rm4 σ).2 8 (by omega) (by omega)),
    hC 7 1 (value_ok D (rm5 σ) 1 (by omega) (by omega)), hC 8 1 (value_ok D (rm6 σ) 4 (by omega) (by omega)), hC 9 1 (value_ok D (rm7 σ) 8 (by omega) (by omega)), hC 10 1 (value_ok D (rm8 σ) 8 (by omega) (by omega))] calNone_ok (by kernel_rfl)
end Go.Proofs.Ytfcjmpgbohgoeaa
end
section
namespace Go.Proofs.Ytfcjmpgbohgoeaa
open Go.RowKit Go.Lib Go.Tk Go.Shelf Go.Vc Go.Sx
set_option linter.unusedVariables false
set_option linter.unusedSimpArgs false
theorem rtext_len (σ : WS) : (rtext σ).2.bs.length ≤ σ.bs.length := Nat.le_trans (rtake_len _ _) (rmany_len _ _)
theorem text_ok (D : Chunk) (σ : WS) (hb : σ.bs.length ≤ 1000000) : CallOK Try.prog 51 [.ptr 0 0 0] [] [((0, 0), rdS D σ)] (.val (.string (rtext σ).1)) [((0, 0), rdS D (rtext σ).2)] :=
  fun ε R w hM => (rtext_at D (ε 0 0).1 σ R w hM hb).mono (by rintro e w' ⟨rfl, hm⟩; exact ⟨fun _ => default, rfl, hm⟩)
theorem many_ok (D : Chunk) (σ : WS) (most : Nat) (hm : most ≤ 40) (hb : σ.bs.length ≤ 1000000) : CallOK Try.prog 52 [.ptr 0 0 0, .val (.int .i64 most)] [] [((0, 0), rdS D σ)] (.val (.int .i64 ((rmany σ most).1 : Int))) [((0, 0), rdS D (rmany σ most).2)] :=
  fun ε R w hM => (rmany_at D (ε 0 0).1 σ most R w hM hm hb).mono (by rintro e w' ⟨rfl, hm⟩; exact ⟨fun _ => default, rfl, hm⟩)
/-- states behind so many legs, taxes -/
def rLs (σ : WS) : Nat → WS
  | 0 => σ
  | i + 1 => (rleg (rLs σ i)).2
def rLc (σ : WS) : Nat → List Value
  | 0 => []
  | i + 1 => rLc σ i ++ [.int .u8 (rleg (rLs σ i)).1.c, .int .u16 (rleg (rLs σ i)).1.f, .int .u32 (rleg (rLs σ i)).1.x]
def rTs (σ : WS) : Nat → WS
  | 0 => σ
  | i + 1 => rtake (rtext (rTs σ i)).2 8
def rTc (σ : WS) : Nat → List Value
  | 0 => []
  | i + 1 => rTc σ i ++ [.string (rtext (rTs σ i)).1, .int .i64 (IntKind.i64.wrap (rval (rtext (rTs σ i)).2 8))]
theorem rLs_len (σ : WS) : ∀ i, (rLs σ i).bs.length ≤ σ.bs.length
  | 0 => Nat.le_refl _
  | i + 1 => Nat.le_trans (rleg_len _) (rLs_len σ i)
theorem rTs_len (σ : WS) : ∀ i, (rTs σ i).bs.length ≤ σ.bs.length
  | 0 => Nat.le_refl _
  | i + 1 => Nat.le_trans (rtake_len _ _) (Nat.le_trans (rtext_len _) (rTs_len σ i))
def rc2 (σ : WS) := rtick (rtake σ 1)
def rc4 (σ : WS) := rtake (rtake (rc2 σ).2 1) 8
def rc5 (σ : WS) := rtext (rc4 σ)
def rc6 (σ : WS) := rmany (rc5 σ).2 4
def rc7 (σ : WS) := rLs (rc6 σ).2 (rc6 σ).1
def rc8 (σ : WS) := rtake (rc7 σ) 8
def rc9 (σ : WS) := rmany (rc8 σ) 4
def rc10 (σ : WS) := rTs (rc9 σ).2 (rc9 σ).1
def cmdSV (σ : WS) (legs : SV) (fare : Int) (taxes : SV) (penalty : Int) : List SV := [.val (.int .u8 (IntKind.u8.wrap (rval σ 1))), .val (.int .u8 (rc2 σ).1.c), .val (.int .u64 (rc2 σ).1.r), .val (.int .u8 (IntKind.u8.wrap (rval (rc2 σ).2 1))), .val (.string (rc5 σ).1), legs, .val (.int .i64 fare), taxes, .val (.int .i64 penalty), .val (.int .i64 (IntKind.i64.wrap (rval (rtake (rc2 σ).2 1) 8)))]
def cmdZ : List SV := [.val (.int .u8 0), .val (.int .u8 0), .val (.int .u64 0), .val (.int .u8 0), .val (.string ByteArray.empty), .val (.slice none 0 0), .val (.int .i64 0), .val (.slice none 0 0), .val (.int .i64 0), .val (.int .i64 0)]
def legRow (n : Nat) (xs : List Value) : SC := .row 36 3 n (.shal xs) []
def taxRow (n : Nat) (xs : List Value) : SC := .row 58 2 n (.shal xs) []
attribute [local irreducible] rmany rtext rleg rtick rtake rval
theorem rcmd_ok (D : Chunk) (σ : WS) (hb : σ.bs.length ≤ 1000000) : CallOK Try.prog 34 [.ptr 0 0 0] [] [((0, 0), rdS D σ)]
    (.agg (cmdSV σ (.raw 1 0) (IntKind.i64.wrap (rval (rc7 σ) 8)) (.raw 1 1) (IntKind.i64.wrap (rval (rc10 σ) 8)))) [((0, 0), rdS D (rtake (rc10 σ) 8)), ((1, 0), legRow (rc6 σ).1 (rLc (rc6 σ).2 (rc6 σ).1)), ((1, 1), taxRow (rc9 σ).1 (rTc (rc9 σ).2 (rc9 σ).1))] := by
  have h1 := rtake_len σ 1
  have h2 : (rc2 σ).2.bs.length ≤ (rtake σ 1).bs.length := by unfold rc2; exact rtick_len _
  have h3 := rtake_len (rc2 σ).2 1
  have h4 : (rc4 σ).bs.length ≤ (rtake (rc2 σ).2 1).bs.length := by unfold rc4; exact rtake_len _ _
  have h5 : (rc5 σ).2.bs.length ≤ (rc4 σ).bs.length := by unfold rc5; exact rtext_len _
  have h6 : (rc6 σ).2.bs.length ≤ (rc5 σ).2.bs.length := by unfold rc6; exact rmany_len _ _
  have h7 : (rc7 σ).bs.length ≤ (rc6 σ).2.bs.length := by unfold rc7; exact rLs_len _ _
  have h8 : (rc8 σ).bs.length ≤ (rc7 σ).bs.length := by unfold rc8; exact rtake_len _ _
  have h9 : (rc9 σ).2.bs.length ≤ (rc8 σ).bs.length := by unfold rc9; exact rmany_len _ _
  have h10 : (rc10 σ).bs.length ≤ (rc9 σ).2.bs.length := by unfold rc10; exact rTs_len _ _
  have hn1 : (rc6 σ).1 ≤ 4 := by unfold rc6; exact rmany_le _ _
  have hn2 : (rc9 σ).1 ≤ 4 := by unfold rc9; exact rmany_le _ _
  refine callOK_intro (by kernel_rfl) fun eb R => ?_
  refine go_loop (X := { i : Nat // i ≤ (rc6 σ).1 }) 0 [] (fun x => ([(0, .ptr 0 0 0), (2, .ptr 1 0 0), (3, .ptr 1 1 0), (4, .val (.int .i64 ((rc6 σ).1 : Int))), (5, .val (.int .i64 (x.1 : Int)))],
      [((0, 0), rdS D (rLs (rc6 σ).2 x.1)), ((1, 0), .box none cmdZ), ((1, 1), .box none (cmdSV σ (.raw 1 2) 0 (.val (.slice none 0 0)) 0)), ((1, 2), legRow x.1 (rLc (rc6 σ).2 x.1))]))
    (fun x => (rc6 σ).1 - x.1) ⟨0, Nat.zero_le _⟩ calNone false 200
    [hC 2 1 (value_ok D σ 1 (by omega) hb), hC 3 1 (tick_ok D (rtake σ 1) (by omega)), hC 4 1 (value_ok D (rc2 σ).2 1 (by omega) (by omega)), hC 5 1 (value_ok D (rtake (rc2 σ).2 1) 8 (by omega) (by omega)), hC 6 1 (text_ok D (rc4 σ) (by omega)), hC 7 1 (many_ok D (rc5 σ).2 4 (by omega) (by omega))] calNone_ok (by kernel_rfl) ?_
  rintro ⟨i, hi⟩ J hJ
  have hli := rLs_len (rc6 σ).2 i
  by_cases h : i < (rc6 σ).1
  · exact leaf_next calNone false 200 [hB 9 2 (decide ((i : Int) < ((rc6 σ).1 : Int))) true (decide_eq_true (by omega)), hC 11 4 (leg_ok D (rLs (rc6 σ).2 i) (by omega)), .opt 11 6 (.le (i + 1) (by omega)), hI 10 1 .i64 (IntKind.i64.wrap ((i : Int) + 1)) ((i + 1 : Nat) : Int) (by rw [wr_i64 (by omega)]; omega)] calNone_ok (hJ ⟨i + 1, h⟩ (by show _ - (i + 1) < _ - i; omega)) (by kernel_rfl)
  · have he : i = (rc6 σ).1 := by omega
    subst he
    refine go_loop (X := { i : Nat // i ≤ (rc9 σ).1 }) 1 [] (fun x => ([(0, .ptr 0 0 0), (2, .ptr 1 0 0), (3, .ptr 1 1 0), (4, .val (.int .i64 ((rc9 σ).1 : Int))), (6, .val (.int .i64 (x.1 : Int)))],
        [((0, 0), rdS D (rTs (rc9 σ).2 x.1)), ((1, 0), .box none cmdZ), ((1, 1), .box none (cmdSV σ (.raw 1 2) (IntKind.i64.wrap (rval (rc7 σ) 8)) (.raw 1 3) 0)), ((1, 2), legRow (rc6 σ).1 (rLc (rc6 σ).2 (rc6 σ).1)), ((1, 3), taxRow x.1 (rTc (rc9 σ).2 x.1))]))
      (fun x => (rc9 σ).1 - x.1) ⟨0, Nat.zero_le _⟩ calNone false 200
      [hB 9 2 (decide (((rc6 σ).1 : Int) < ((rc6 σ).1 : Int))) false (decide_eq_false (by omega)), hC 12 1 (value_ok D (rc7 σ) 8 (by omega) (by omega)), hC 13 1 (many_ok D (rc8 σ) 4 (by omega) (by omega))] calNone_ok (by kernel_rfl) ?_
    rintro ⟨i, hi⟩ J hJ
    have hli := rTs_len (rc9 σ).2 i
    have hlx := rtext_len (rTs (rc9 σ).2 i)
    by_cases h : i < (rc9 σ).1
    · exact leaf_next calNone false 200 [hB 15 2 (decide ((i : Int) < ((rc9 σ).1 : Int))) true (decide_eq_true (by omega)), hC 17 1 (text_ok D (rTs (rc9 σ).2 i) (by omega)), hC 18 5 (value_ok D (rtext (rTs (rc9 σ).2 i)).2 8 (by omega) (by omega)), .opt 18 9 (.le (i + 1) (by omega)), hI 16 1 .i64 (IntKind.i64.wrap ((i : Int) + 1)) ((i + 1 : Nat) : Int) (by rw [wr_i64 (by omega)]; omega)] calNone_ok (hJ ⟨i + 1, h⟩ (by show _ - (i + 1) < _ - i; omega)) (by kernel_rfl)
    · have he : i = (rc9 σ).1 := by omega
      subst he
      exact leaf_end calNone false 200 [hB 15 2 (decide (((rc9 σ).1 : Int) < ((rc9 σ).1 : Int))) false (decide_eq_false (by omega)), hC 19 1 (value_ok D (rc10 σ) 8 (by omega) (by omega))] calNone_ok (by kernel_rfl)
end Go.Proofs.Ytfcjmpgbohgoeaa
end
