/- CODEC: Get. -/
import Derived.Test.YtfcjmpgbohgoeaaCo12
namespace Go.Proofs.Ytfcjmpgbohgoeaa
open Go.RowKit Go.Lib Go.Tk Go.Shelf Go.Vc
set_option linter.unusedVariables false
set_option linter.unusedSimpArgs false
attribute [-go_sem] loadCellsFrom
def tk : Md := .take (pureC True)
theorem fld_D (k : IntKind) (D : Chunk) : fld k (.take D) = fld k tk := rfl
theorem num_D (D : Chunk) : num (.take D) = num tk := rfl
theorem tickF_D (D : Chunk) : tickF (.take D) = tickF tk := by funext σ t; simp only [tickF, fld_D, num_D]
theorem legF_D (D : Chunk) : legF (.take D) = legF tk := by funext σ t; simp only [legF, fld_D]
theorem byteF_D (D : Chunk) : byteF (.take D) = byteF tk := rfl
theorem listN_D (D : Chunk) : listN (.take D) = listN tk := rfl
theorem listF_D {α : Type} (f : WS → α → α × WS) (z : α) (D : Chunk) : listF f z (.take D) = listF f z tk := by funext σ a b; simp only [listF, listN_D]
theorem textF_D (D : Chunk) : textF (.take D) = textF tk := by funext σ t; simp only [textF, byteF_D, listF_D]
theorem taxF_D (D : Chunk) : taxF (.take D) = taxF tk := by funext σ t; simp only [taxF, textF_D, fld_D]
theorem cd1_D (D : Chunk) : cd1 (.take D) = cd1 tk := by funext σ c; simp only [cd1, fld_D, num_D, tickF_D, legF_D, textF_D, taxF_D, listF_D]
theorem cd2_D (D : Chunk) : cd2 (.take D) = cd2 tk := by funext σ c; simp only [cd2, cd1_D, fld_D, num_D, tickF_D, legF_D, textF_D, taxF_D, listF_D]
theorem cd3_D (D : Chunk) : cd3 (.take D) = cd3 tk := by funext σ c; simp only [cd3, cd2_D, fld_D, num_D, tickF_D, legF_D, textF_D, taxF_D, listF_D]
theorem cd4_D (D : Chunk) : cd4 (.take D) = cd4 tk := by funext σ c; simp only [cd4, cd3_D, fld_D, num_D, tickF_D, legF_D, textF_D, taxF_D, listF_D]
theorem cd5_D (D : Chunk) : cd5 (.take D) = cd5 tk := by funext σ c; simp only [cd5, cd4_D, fld_D, num_D, tickF_D, legF_D, textF_D, taxF_D, listF_D]
theorem cd6_D (D : Chunk) : cd6 (.take D) = cd6 tk := by funext σ c; simp only [cd6, cd5_D, fld_D, num_D, tickF_D, legF_D, textF_D, taxF_D, listF_D]
theorem cd7_D (D : Chunk) : cd7 (.take D) = cd7 tk := by funext σ c; simp only [cd7, cd6_D, fld_D, num_D, tickF_D, legF_D, textF_D, taxF_D, listF_D]
theorem cd8_D (D : Chunk) : cd8 (.take D) = cd8 tk := by funext σ c; simp only [cd8, cd7_D, fld_D, num_D, tickF_D, legF_D, textF_D, taxF_D, listF_D]
theorem cd9_D (D : Chunk) : cd9 (.take D) = cd9 tk := by funext σ c; simp only [cd9, cd8_D, fld_D, num_D, tickF_D, legF_D, textF_D, taxF_D, listF_D]
theorem md1_D (D : Chunk) : md1 (.take D) = md1 tk := by funext σ c; simp only [md1, fld_D, num_D, tickF_D, legF_D, textF_D, taxF_D, listF_D]
theorem md2_D (D : Chunk) : md2 (.take D) = md2 tk := by funext σ c; simp only [md2, md1_D, fld_D, num_D, tickF_D, legF_D, textF_D, taxF_D, listF_D]
theorem md3_D (D : Chunk) : md3 (.take D) = md3 tk := by funext σ c; simp only [md3, md2_D, fld_D, num_D, tickF_D, legF_D, textF_D, taxF_D, listF_D]
theorem md4_D (D : Chunk) : md4 (.take D) = md4 tk := by funext σ c; simp only [md4, md3_D, fld_D, num_D, tickF_D, legF_D, textF_D, taxF_D, listF_D]
theorem md5_D (D : Chunk) : md5 (.take D) = md5 tk := by funext σ c; simp only [md5, md4_D, fld_D, num_D, tickF_D, legF_D, textF_D, taxF_D, listF_D]
theorem md6_D (D : Chunk) : md6 (.take D) = md6 tk := by funext σ c; simp only [md6, md5_D, fld_D, num_D, tickF_D, legF_D, textF_D, taxF_D, listF_D]
theorem md7_D (D : Chunk) : md7 (.take D) = md7 tk := by funext σ c; simp only [md7, md6_D, fld_D, num_D, tickF_D, legF_D, textF_D, taxF_D, listF_D]
theorem md8_D (D : Chunk) : md8 (.take D) = md8 tk := by funext σ c; simp only [md8, md7_D, fld_D, num_D, tickF_D, legF_D, textF_D, taxF_D, listF_D]
theorem md9_D (D : Chunk) : md9 (.take D) = md9 tk := by funext σ c; simp only [md9, md8_D, fld_D, num_D, tickF_D, legF_D, textF_D, taxF_D, listF_D]
theorem cmdF_D (D : Chunk) : cmdF (.take D) = cmdF tk := by funext σ c; simp only [cmdF, cd1_D, cd2_D, cd3_D, cd4_D, cd5_D, cd6_D, cd7_D, cd8_D, cd9_D]
theorem msgF_D (D : Chunk) : msgF (.take D) = msgF tk := by funext σ c; simp only [msgF, md1_D, md2_D, md3_D, md4_D, md5_D, md6_D, md7_D, md8_D, md9_D]
theorem ov1_D (D : Chunk) : ov1 (.take D) = ov1 tk := by funext σ c; simp only [ov1, fld_D, num_D]
theorem ov2_D (D : Chunk) : ov2 (.take D) = ov2 tk := by funext σ c; simp only [ov2, ov1_D, fld_D, num_D]
theorem ov3_D (D : Chunk) : ov3 (.take D) = ov3 tk := by funext σ c; simp only [ov3, ov2_D, fld_D, num_D]
theorem overF_D (D : Chunk) : overF (.take D) = overF tk := by funext σ c; simp only [overF, ov1_D, ov2_D, ov3_D, cmdF_D, msgF_D]
def ovT (bs : List Int) : RecV × WS := overF tk ⟨false, bs⟩ rec0
theorem ovT_eq (D : Chunk) (bs : List Int) : overF (.take D) ⟨false, bs⟩ rec0 = ovT bs := by rw [overF_D]; rfl
abbrev badT (bs : List Int) : Prop := (ovT bs).2.bad = true ∨ ((ovT bs).2.bs.length : Int) > 0
def getE (bs : List Int) : Int := if badT bs then 140 else 0
def getR (bs : List Int) : RecV := if badT bs then rec0 else (ovT bs).1
theorem recOk_take (D : Chunk) : RecOk (.take D) rec0 := ⟨⟨⟨Int.le_refl _, by decide⟩, rfl, rfl, rfl, fun t h => by cases h⟩, ⟨⟨Int.le_refl _, by decide⟩⟩, ⟨Int.le_refl _, by decide⟩⟩
set_option maxRecDepth 100000 in
set_option maxHeartbeats 8000000 in
theorem get_at (a : Option Addr) (c : Nat) (bs : List Int) (D : Chunk) (R : List Chunk) (w : World) (hM : Mem (D :: R) w) (hR : Rd D a (bs.map (.int .u8))) (hlc : bs.length ≤ c) (hac : a = none → c = 0) (hin : ∀ x ∈ bs, 0 ≤ x ∧ x ≤ 255) (hb : bs.length ≤ 800000) :
  Calls Try.prog 16 #[.slice a bs.length c] w fun e w' => ∃ vl vt, e = .returned (.tuple #[.agg (recCells (getR bs) vl vt), .int .i64 (getE bs)]) ∧ Mem (rowC 36 3 vl (getR bs).cmd.legs.length (cellsL legE (getR bs).cmd.legs) :: rowC 58 2 vt (getR bs).cmd.taxes.length (cellsL taxE (getR bs).cmd.taxes) :: D :: R) w' := by
 refine enter Try.func16 rfl Try.ntmps16 (Nat.le_of_ble_eq_true rfl) ?_
 intro a0 hz0 hd0 hg0
 have g0_0 : a0.tmps[0]? = some (.slice a bs.length c) := hg0 0 _ rfl
 clear hg0
 have hM0 : Mem (D :: R) _ := hM
 refine wp_seq ?_
 refine region_seq 30 (fun zz e => (#[.pointer (some ⟨(e 0).1, 0, none⟩), .int .i64 0] : Array Value).getD zz undef) (fun k e w => Mem (List.getD [D :: R, boxC ((e 0).1) #[.int .u8 0, .int .u8 0, .int .u8 0, .int .u64 0, .int .u8 0, .string ByteArray.empty, .slice none 0 0, .int .i64 0, .slice none 0 0, .int .i64 0, .int .i64 0, .int .u8 0, .int .u64 0, .int .u8 0, .int .u8 0, .int .u64 0, .int .u8 0, .int .u8 0, .int .u16 0, .int .u32 0, .int .i64 0, .int .u8 0, .int .u32 0, .int .i64 0, .int .i64 0] :: D :: R] k []) w) (fun _ => (0, undef)) [0] [0, 1] (fun _ _ => false) hz0 (by kernel_rfl) (by kernel_rfl) (by kernel_rfl) ?_ (show Mem _ _ from hM0) ?_ ?_
 · exact ⟨fun e e' h => congrArg (fun x : Rv => (.pointer (some ⟨x.1, 0, none⟩) : Value)) (h 0 (by decide)), fun _ _ _ => rfl, trivial⟩
 ·
  refine ⟨?_, ?_, trivial⟩
  ·
   refine op2 (a := 0) rfl fun e w ρ (hM : Mem _ w) E => ?_
   exact res_ok (x_alloc (z := .agg #[.int .u8 0, .int .u8 0, .int .u8 0, .int .u64 0, .int .u8 0, .string ByteArray.empty, .slice none 0 0, .int .i64 0, .slice none 0 0, .int .i64 0, .int .i64 0, .int .u8 0, .int .u64 0, .int .u8 0, .int .u8 0, .int .u64 0, .int .u8 0, .int .u8 0, .int .u16 0, .int .u32 0, .int .i64 0, .int .u8 0, .int .u32 0, .int .i64 0, .int .i64 0]) rfl (by kernel_rfl)) (goes_tick rfl (w.heap.size, undef) rfl (hM.alloc _ _))
  · exact op2 (a := 1) rfl fun e w ρ (hM : Mem _ w) E => res_ok (x_assign rfl (E.c _)) (goes_still rfl rfl hM)
 ·
  intro e a1 w1 hz1 hd hG hO hM
  have hd1 := hd.trans hd0
  have g0_1 := (hO 0 rfl).trans g0_0
  have g2_1 : a1.tmps[2]? = some (.pointer (some ⟨(e 0).1, 0, none⟩)) := hG 0 _ 2 rfl rfl
  have g3_1 : a1.tmps[3]? = some (.int .i64 0) := hG 1 _ 3 rfl rfl
  have hM1 : Mem (boxC ((e 0).1) #[.int .u8 0, .int .u8 0, .int .u8 0, .int .u64 0, .int .u8 0, .string ByteArray.empty, .slice none 0 0, .int .i64 0, .slice none 0 0, .int .i64 0, .int .i64 0, .int .u8 0, .int .u64 0, .int .u8 0, .int .u8 0, .int .u64 0, .int .u8 0, .int .u8 0, .int .u16 0, .int .u32 0, .int .i64 0, .int .u8 0, .int .u32 0, .int .i64 0, .int .i64 0] :: D :: R) w1 := hM
  clear hM hG hO hd
  clear hz0 hd0 hM0 g0_0
  generalize (e 0).1 = b1_0 at *
  refine then_n ?_
  refine wp_seq ?_
  refine region_seq 30 (fun zz e => (#[.pointer (some ⟨(e 0).1, 0, none⟩)] : Array Value).getD zz undef) (fun k e w => Mem (List.getD [boxC b1_0 #[.int .u8 0, .int .u8 0, .int .u8 0, .int .u64 0, .int .u8 0, .string ByteArray.empty, .slice none 0 0, .int .i64 0, .slice none 0 0, .int .i64 0, .int .i64 0, .int .u8 0, .int .u64 0, .int .u8 0, .int .u8 0, .int .u64 0, .int .u8 0, .int .u8 0, .int .u16 0, .int .u32 0, .int .i64 0, .int .u8 0, .int .u32 0, .int .i64 0, .int .i64 0] :: D :: R, boxC ((e 0).1) #[.int .u8 0, .int .u8 0, .int .u8 0, .int .u64 0, .int .u8 0, .string ByteArray.empty, .slice none 0 0, .int .i64 0, .slice none 0 0, .int .i64 0, .int .i64 0, .int .u8 0, .int .u64 0, .int .u8 0, .int .u8 0, .int .u64 0, .int .u8 0, .int .u8 0, .int .u16 0, .int .u32 0, .int .i64 0, .int .u8 0, .int .u32 0, .int .i64 0, .int .i64 0] :: boxC b1_0 #[.int .u8 0, .int .u8 0, .int .u8 0, .int .u64 0, .int .u8 0, .string ByteArray.empty, .slice none 0 0, .int .i64 0, .slice none 0 0, .int .i64 0, .int .i64 0, .int .u8 0, .int .u64 0, .int .u8 0, .int .u8 0, .int .u64 0, .int .u8 0, .int .u8 0, .int .u16 0, .int .u32 0, .int .i64 0, .int .u8 0, .int .u32 0, .int .i64 0, .int .i64 0] :: D :: R] k []) w) (fun _ => (0, undef)) [0] [0] (fun _ _ => false) hz1 (by kernel_rfl) (by kernel_rfl) (by kernel_rfl) ?_ (show Mem _ _ from hM1) ?_ ?_
  · exact ⟨fun e e' h => congrArg (fun x : Rv => (.pointer (some ⟨x.1, 0, none⟩) : Value)) (h 0 (by decide)), trivial⟩
  ·
   refine ⟨?_, trivial⟩
   ·
    refine op2 (a := 0) rfl fun e w ρ (hM : Mem _ w) E => ?_
    exact res_ok (x_alloc (z := .agg #[.int .u8 0, .int .u8 0, .int .u8 0, .int .u64 0, .int .u8 0, .string ByteArray.empty, .slice none 0 0, .int .i64 0, .slice none 0 0, .int .i64 0, .int .i64 0, .int .u8 0, .int .u64 0, .int .u8 0, .int .u8 0, .int .u64 0, .int .u8 0, .int .u8 0, .int .u16 0, .int .u32 0, .int .i64 0, .int .u8 0, .int .u32 0, .int .i64 0, .int .i64 0]) rfl (by kernel_rfl)) (goes_tick rfl (w.heap.size, undef) rfl (hM.alloc _ _))
  ·
   intro e a2 w2 hz2 hd hG hO hM
   have hd2 := hd.trans hd1
   have g0_2 := (hO 0 rfl).trans g0_1
   have g2_2 := (hO 2 rfl).trans g2_1
   have g3_2 := (hO 3 rfl).trans g3_1
   have g4_2 : a2.tmps[4]? = some (.pointer (some ⟨(e 0).1, 0, none⟩)) := hG 0 _ 4 rfl rfl
   have hM2 : Mem (boxC ((e 0).1) #[.int .u8 0, .int .u8 0, .int .u8 0, .int .u64 0, .int .u8 0, .string ByteArray.empty, .slice none 0 0, .int .i64 0, .slice none 0 0, .int .i64 0, .int .i64 0, .int .u8 0, .int .u64 0, .int .u8 0, .int .u8 0, .int .u64 0, .int .u8 0, .int .u8 0, .int .u16 0, .int .u32 0, .int .i64 0, .int .u8 0, .int .u32 0, .int .i64 0, .int .i64 0] :: boxC b1_0 #[.int .u8 0, .int .u8 0, .int .u8 0, .int .u64 0, .int .u8 0, .string ByteArray.empty, .slice none 0 0, .int .i64 0, .slice none 0 0, .int .i64 0, .int .i64 0, .int .u8 0, .int .u64 0, .int .u8 0, .int .u8 0, .int .u64 0, .int .u8 0, .int .u8 0, .int .u16 0, .int .u32 0, .int .i64 0, .int .u8 0, .int .u32 0, .int .i64 0, .int .i64 0] :: D :: R) w2 := hM
   clear hM hG hO hd
   clear hz1 hd1 hM1 g0_1 g2_1 g3_1
   generalize (e 0).1 = b2_0 at *
   refine then_n ?_
   refine wp_seq ?_
   refine region_seq 30 (fun zz e => (#[.slice a bs.length c, .agg #[.slice a bs.length c, .nilFunc, .bool false], .pointer (some ⟨(e 0).1, 0, none⟩), .pointer (some ⟨(e 0).1, 0, none⟩)] : Array Value).getD zz undef) (fun k e w => Mem (List.getD [boxC b2_0 #[.int .u8 0, .int .u8 0, .int .u8 0, .int .u64 0, .int .u8 0, .string ByteArray.empty, .slice none 0 0, .int .i64 0, .slice none 0 0, .int .i64 0, .int .i64 0, .int .u8 0, .int .u64 0, .int .u8 0, .int .u8 0, .int .u64 0, .int .u8 0, .int .u8 0, .int .u16 0, .int .u32 0, .int .i64 0, .int .u8 0, .int .u32 0, .int .i64 0, .int .i64 0] :: boxC b1_0 #[.int .u8 0, .int .u8 0, .int .u8 0, .int .u64 0, .int .u8 0, .string ByteArray.empty, .slice none 0 0, .int .i64 0, .slice none 0 0, .int .i64 0, .int .i64 0, .int .u8 0, .int .u64 0, .int .u8 0, .int .u8 0, .int .u64 0, .int .u8 0, .int .u8 0, .int .u16 0, .int .u32 0, .int .i64 0, .int .u8 0, .int .u32 0, .int .i64 0, .int .i64 0] :: D :: R, boxC ((e 0).1) #[.slice a bs.length c, .nilFunc, .bool false] :: boxC b2_0 #[.int .u8 0, .int .u8 0, .int .u8 0, .int .u64 0, .int .u8 0, .string ByteArray.empty, .slice none 0 0, .int .i64 0, .slice none 0 0, .int .i64 0, .int .i64 0, .int .u8 0, .int .u64 0, .int .u8 0, .int .u8 0, .int .u64 0, .int .u8 0, .int .u8 0, .int .u16 0, .int .u32 0, .int .i64 0, .int .u8 0, .int .u32 0, .int .i64 0, .int .i64 0] :: boxC b1_0 #[.int .u8 0, .int .u8 0, .int .u8 0, .int .u64 0, .int .u8 0, .string ByteArray.empty, .slice none 0 0, .int .i64 0, .slice none 0 0, .int .i64 0, .int .i64 0, .int .u8 0, .int .u64 0, .int .u8 0, .int .u8 0, .int .u64 0, .int .u8 0, .int .u8 0, .int .u16 0, .int .u32 0, .int .i64 0, .int .u8 0, .int .u32 0, .int .i64 0, .int .i64 0] :: D :: R] k []) w) (fun _ => (0, undef)) [2] [0, 0, 0, 1] (fun _ _ => false) hz2 (by kernel_rfl) (by kernel_rfl) (by kernel_rfl) ?_ (show Mem _ _ from hM2) ?_ ?_
   · exact ⟨fun _ _ _ => rfl, fun _ _ _ => rfl, fun e e' h => congrArg (fun x : Rv => (.pointer (some ⟨x.1, 0, none⟩) : Value)) (h 0 (by decide)), fun e e' h => congrArg (fun x : Rv => (.pointer (some ⟨x.1, 0, none⟩) : Value)) (h 0 (by decide)), trivial⟩
   ·
    refine ⟨?_, ?_, ?_, ?_, trivial⟩
    · exact op2 (a := 0) rfl fun e w ρ (hM : Mem _ w) E => res_ok (x_move rfl (E.o 0 _ rfl g0_2)) (goes_still rfl rfl hM)
    ·
     refine op2 (a := 0) rfl fun e w ρ (hM : Mem _ w) E => ?_
     have e6 : ρ (.tmp 6) = .slice a bs.length c := E.d 0 _ 6 rfl rfl rfl
     exact res_ok (v := .agg #[.slice a bs.length c, .nilFunc, .bool false]) (by simp [go_sem, execOp, Instr.build, Instr.fill, E.c, E.f, e6] <;> rfl) (goes_still rfl rfl hM)
    ·
     refine op2 (a := 0) rfl fun e w ρ (hM : Mem _ w) E => ?_
     have e7 : ρ (.tmp 7) = .agg #[.slice a bs.length c, .nilFunc, .bool false] := E.d 1 _ 7 rfl rfl rfl
     exact res_ok (x_box rfl (e7)) (goes_tick rfl (w.heap.size, undef) rfl (hM.alloc _ _))
    · exact op2 (a := 1) rfl fun e w ρ (hM : Mem _ w) E => res_ok (x_assign rfl (E.d 2 _ 8 rfl rfl rfl)) (goes_still rfl rfl hM)
   ·
    intro e a3 w3 hz3 hd hG hO hM
    have hd3 := hd.trans hd2
    have g2_3 := (hO 2 rfl).trans g2_2
    have g3_3 := (hO 3 rfl).trans g3_2
    have g4_3 := (hO 4 rfl).trans g4_2
    have g5_3 : a3.tmps[5]? = some (.pointer (some ⟨(e 0).1, 0, none⟩)) := hG 3 _ 5 rfl rfl
    have hM3 : Mem (boxC ((e 0).1) #[.slice a bs.length c, .nilFunc, .bool false] :: boxC b2_0 #[.int .u8 0, .int .u8 0, .int .u8 0, .int .u64 0, .int .u8 0, .string ByteArray.empty, .slice none 0 0, .int .i64 0, .slice none 0 0, .int .i64 0, .int .i64 0, .int .u8 0, .int .u64 0, .int .u8 0, .int .u8 0, .int .u64 0, .int .u8 0, .int .u8 0, .int .u16 0, .int .u32 0, .int .i64 0, .int .u8 0, .int .u32 0, .int .i64 0, .int .i64 0] :: boxC b1_0 #[.int .u8 0, .int .u8 0, .int .u8 0, .int .u64 0, .int .u8 0, .string ByteArray.empty, .slice none 0 0, .int .i64 0, .slice none 0 0, .int .i64 0, .int .i64 0, .int .u8 0, .int .u64 0, .int .u8 0, .int .u8 0, .int .u64 0, .int .u8 0, .int .u8 0, .int .u16 0, .int .u32 0, .int .i64 0, .int .u8 0, .int .u32 0, .int .i64 0, .int .i64 0] :: D :: R) w3 := hM
    clear hM hG hO hd
    clear hz2 hd2 hM2 g0_2 g2_2 g3_2 g4_2
    generalize (e 0).1 = b3_0 at *
    refine then_n ?_
    refine wp_seq ?_
    refine region_seq 30 (fun zz e => (#[.pointer (some ⟨b3_0, 0, none⟩), .pointer (some ⟨b3_0, 0, none⟩), .func (.func 32) #[.pointer (some ⟨b3_0, 0, none⟩)] #[], .pointer (some ⟨b3_0, 0, none⟩), .pointer (some ⟨b3_0, 1, none⟩), undef] : Array Value).getD zz undef) (fun k e w => Mem (List.getD [boxC b3_0 #[.slice a bs.length c, .nilFunc, .bool false] :: boxC b2_0 #[.int .u8 0, .int .u8 0, .int .u8 0, .int .u64 0, .int .u8 0, .string ByteArray.empty, .slice none 0 0, .int .i64 0, .slice none 0 0, .int .i64 0, .int .i64 0, .int .u8 0, .int .u64 0, .int .u8 0, .int .u8 0, .int .u64 0, .int .u8 0, .int .u8 0, .int .u16 0, .int .u32 0, .int .i64 0, .int .u8 0, .int .u32 0, .int .i64 0, .int .i64 0] :: boxC b1_0 #[.int .u8 0, .int .u8 0, .int .u8 0, .int .u64 0, .int .u8 0, .string ByteArray.empty, .slice none 0 0, .int .i64 0, .slice none 0 0, .int .i64 0, .int .i64 0, .int .u8 0, .int .u64 0, .int .u8 0, .int .u8 0, .int .u64 0, .int .u8 0, .int .u8 0, .int .u16 0, .int .u32 0, .int .i64 0, .int .u8 0, .int .u32 0, .int .i64 0, .int .i64 0] :: D :: R, boxC b3_0 #[.slice a bs.length c, .func (.func 32) #[.pointer (some ⟨b3_0, 0, none⟩)] #[], .bool false] :: boxC b2_0 #[.int .u8 0, .int .u8 0, .int .u8 0, .int .u64 0, .int .u8 0, .string ByteArray.empty, .slice none 0 0, .int .i64 0, .slice none 0 0, .int .i64 0, .int .i64 0, .int .u8 0, .int .u64 0, .int .u8 0, .int .u8 0, .int .u64 0, .int .u8 0, .int .u8 0, .int .u16 0, .int .u32 0, .int .i64 0, .int .u8 0, .int .u32 0, .int .i64 0, .int .i64 0] :: boxC b1_0 #[.int .u8 0, .int .u8 0, .int .u8 0, .int .u64 0, .int .u8 0, .string ByteArray.empty, .slice none 0 0, .int .i64 0, .slice none 0 0, .int .i64 0, .int .i64 0, .int .u8 0, .int .u64 0, .int .u8 0, .int .u8 0, .int .u64 0, .int .u8 0, .int .u8 0, .int .u16 0, .int .u32 0, .int .i64 0, .int .u8 0, .int .u32 0, .int .i64 0, .int .i64 0] :: D :: R] k []) w) (fun _ => (0, undef)) [5] [0, 0, 0, 0, 0, 0] (fun _ _ => false) hz3 (by kernel_rfl) (by kernel_rfl) (by kernel_rfl) ?_ (show Mem _ _ from hM3) ?_ ?_
    · exact ⟨fun _ _ _ => rfl, fun _ _ _ => rfl, fun _ _ _ => rfl, fun _ _ _ => rfl, fun _ _ _ => rfl, fun _ _ _ => rfl, trivial⟩
    ·
     refine ⟨?_, ?_, ?_, ?_, ?_, ?_, trivial⟩
     · exact op2 (a := 0) rfl fun e w ρ (hM : Mem _ w) E => res_ok (x_move rfl (E.o 5 _ rfl g5_3)) (goes_still rfl rfl hM)
     · exact op2 (a := 0) rfl fun e w ρ (hM : Mem _ w) E => res_ok (x_move rfl (E.o 5 _ rfl g5_3)) (goes_still rfl rfl hM)
     ·
      refine op2 (a := 0) rfl fun e w ρ (hM : Mem _ w) E => ?_
      have e10 : ρ (.tmp 10) = .pointer (some ⟨b3_0, 0, none⟩) := E.d 1 _ 10 rfl rfl rfl
      exact res_ok (x_makeFunc (vs := #[.pointer (some ⟨b3_0, 0, none⟩)]) (us := #[]) rfl (by simp [e10]) (by simp)) (goes_still rfl rfl hM)
     · exact op2 (a := 0) rfl fun e w ρ (hM : Mem _ w) E => res_ok (x_nil rfl (E.d 0 _ 9 rfl rfl rfl)) (goes_still rfl rfl hM)
     · exact op2 (a := 0) rfl fun e w ρ (hM : Mem _ w) E => res_ok (x_fieldAddr (off := 1) rfl (E.d 3 _ 12 rfl rfl rfl) (by kernel_rfl) rfl) (goes_still rfl rfl hM)
     ·
      refine op2 (a := 0) rfl fun e w ρ (hM : Mem _ w) E => ?_
      have e11 := E.d 2 _ 11 rfl rfl rfl
      have e13 := E.d 4 _ 13 rfl rfl rfl
      obtain ⟨w', hr, hm⟩ := Mem.store (P := Try.prog) hM 0 rfl 69 1 (.func (.func 32) #[.pointer (some ⟨b3_0, 0, none⟩)] #[]) [.func (.func 32) #[.pointer (some ⟨b3_0, 0, none⟩)] #[]] rfl (by kernel_rfl) (Nat.le_of_ble_eq_true rfl) (by rfl)
      exact res_st (x_store rfl (e13) (e11) hr) (goes_tick rfl (0, undef) rfl hm)
    ·
     intro e a4 w4 hz4 hd hG hO hM
     have hd4 := hd.trans hd3
     have g2_4 := (hO 2 rfl).trans g2_3
     have g3_4 := (hO 3 rfl).trans g3_3
     have g4_4 := (hO 4 rfl).trans g4_3
     have g5_4 := (hO 5 rfl).trans g5_3
     have hM4 : Mem (boxC b3_0 #[.slice a bs.length c, .func (.func 32) #[.pointer (some ⟨b3_0, 0, none⟩)] #[], .bool false] :: boxC b2_0 #[.int .u8 0, .int .u8 0, .int .u8 0, .int .u64 0, .int .u8 0, .string ByteArray.empty, .slice none 0 0, .int .i64 0, .slice none 0 0, .int .i64 0, .int .i64 0, .int .u8 0, .int .u64 0, .int .u8 0, .int .u8 0, .int .u64 0, .int .u8 0, .int .u8 0, .int .u16 0, .int .u32 0, .int .i64 0, .int .u8 0, .int .u32 0, .int .i64 0, .int .i64 0] :: boxC b1_0 #[.int .u8 0, .int .u8 0, .int .u8 0, .int .u64 0, .int .u8 0, .string ByteArray.empty, .slice none 0 0, .int .i64 0, .slice none 0 0, .int .i64 0, .int .i64 0, .int .u8 0, .int .u64 0, .int .u8 0, .int .u8 0, .int .u64 0, .int .u8 0, .int .u8 0, .int .u16 0, .int .u32 0, .int .i64 0, .int .u8 0, .int .u32 0, .int .i64 0, .int .i64 0] :: D :: R) w4 := hM
     clear hM hG hO hd
     clear hz3 hd3 hM3 g2_3 g3_3 g4_3 g5_3
     refine then_n ?_
     refine wp_seq ?_
     refine wp_seq ?_
     have hi : InSlice D (.slice a bs.length c) bs := ⟨a, c, rfl, hlc, hR, hac, hin⟩
     have h1 := Mem.in_pure hi ((((hM4.front 2 rfl).front 2 rfl).front 2 rfl).front 3 rfl)
     have h2 := (Mem.in_all (l := [D, pureC (InSlice D (.slice a bs.length c) bs)]) (h1.front 1 rfl)).front 1 rfl
     have h3 := walk_shut (m := .take D) (σ := ⟨false, bs⟩) (v := .slice a bs.length c) h2
     have h4 := ((h3.noRow 58 2).noRow 36 3).front 3 rfl
     replace hM4 : Mem (walkC (.take D) b3_0 ⟨false, bs⟩ :: recC b2_0 rec0 :: boxC b1_0 #[.int .u8 0, .int .u8 0, .int .u8 0, .int .u64 0, .int .u8 0, .string ByteArray.empty, .slice none 0 0, .int .i64 0, .slice none 0 0, .int .i64 0, .int .i64 0, .int .u8 0, .int .u64 0, .int .u8 0, .int .u8 0, .int .u64 0, .int .u8 0, .int .u8 0, .int .u16 0, .int .u32 0, .int .i64 0, .int .u8 0, .int .u32 0, .int .i64 0, .int .i64 0] :: R) w4 := (rec_shut (r := rec0) h4).front 1 rfl
     refine region_seq 30 (fun zz e => (#[.pointer (some ⟨b3_0, 0, none⟩), .tuple #[]] : Array Value).getD zz undef) (fun k e w => Mem (List.getD [walkC (.take D) b3_0 ⟨false, bs⟩ :: recC b2_0 rec0 :: boxC b1_0 #[.int .u8 0, .int .u8 0, .int .u8 0, .int .u64 0, .int .u8 0, .string ByteArray.empty, .slice none 0 0, .int .i64 0, .slice none 0 0, .int .i64 0, .int .i64 0, .int .u8 0, .int .u64 0, .int .u8 0, .int .u8 0, .int .u64 0, .int .u8 0, .int .u8 0, .int .u16 0, .int .u32 0, .int .i64 0, .int .u8 0, .int .u32 0, .int .i64 0, .int .i64 0] :: R, walkC (.take D) b3_0 (ovT bs).2 :: recC b2_0 (ovT bs).1 :: boxC b1_0 #[.int .u8 0, .int .u8 0, .int .u8 0, .int .u64 0, .int .u8 0, .string ByteArray.empty, .slice none 0 0, .int .i64 0, .slice none 0 0, .int .i64 0, .int .i64 0, .int .u8 0, .int .u64 0, .int .u8 0, .int .u8 0, .int .u64 0, .int .u8 0, .int .u8 0, .int .u16 0, .int .u32 0, .int .i64 0, .int .u8 0, .int .u32 0, .int .i64 0, .int .i64 0] :: R] k []) w) (fun _ => (0, undef)) [1] [0, 0] (fun _ _ => false) hz4 (by kernel_rfl) (by kernel_rfl) (by kernel_rfl) ?_ (show Mem _ _ from hM4) ?_ ?_
     · exact ⟨fun _ _ _ => rfl, fun _ _ _ => rfl, trivial⟩
     ·
      refine ⟨?_, ?_, trivial⟩
      · exact op2 (a := 0) rfl fun e w ρ (hM : Mem _ w) E => res_ok (x_move rfl (E.o 5 _ rfl g5_4)) (goes_still rfl rfl hM)
      ·
       refine op2 (a := 0) rfl fun e w ρ (hM : Mem _ w) E => ?_
       have e4 : ρ (.tmp 4) = .pointer (some ⟨b2_0, 0, none⟩) := E.o 4 _ rfl g4_4
       have e14 : ρ (.tmp 14) = .pointer (some ⟨b3_0, 0, none⟩) := E.d 0 _ 14 rfl rfl rfl
       refine res_in (x_call (args := #[.pointer (some ⟨b3_0, 0, none⟩), .pointer (some ⟨b2_0, 0, none⟩)]) rfl rfl (E.f _) (by simp [e14, e4]) (by kernel_rfl)) ?_
       refine (over_at (.take D) b3_0 ⟨false, bs⟩ b2_0 rec0 _ _ ((hM.front 1 rfl).front 1 rfl) (recOk_take D) hb).mono ?_
       rintro e' w' ⟨rfl, hm⟩
       rw [ovT_eq] at hm
       exact ⟨_, rfl, goes_tick rfl (0, undef) rfl hm⟩
     ·
      intro e a5 w5 hz5 hd hG hO hM
      have hd5 := hd.trans hd4
      have g2_5 := (hO 2 rfl).trans g2_4
      have g3_5 := (hO 3 rfl).trans g3_4
      have g4_5 := (hO 4 rfl).trans g4_4
      have g5_5 := (hO 5 rfl).trans g5_4
      have hM5 : Mem (walkC (.take D) b3_0 (ovT bs).2 :: recC b2_0 (ovT bs).1 :: boxC b1_0 #[.int .u8 0, .int .u8 0, .int .u8 0, .int .u64 0, .int .u8 0, .string ByteArray.empty, .slice none 0 0, .int .i64 0, .slice none 0 0, .int .i64 0, .int .i64 0, .int .u8 0, .int .u64 0, .int .u8 0, .int .u8 0, .int .u64 0, .int .u8 0, .int .u8 0, .int .u16 0, .int .u32 0, .int .i64 0, .int .u8 0, .int .u32 0, .int .i64 0, .int .i64 0] :: R) w5 := hM
      clear hM hG hO hd
      clear hz4 hd4 hM4 g2_4 g3_4 g4_4 g5_4
      refine then_n ?_
      refine wp_seq ?_
      obtain ⟨v2, h1⟩ := walk_open (m := .take D) (((hM5.front 2 rfl).front 2 rfl).front 2 rfl)
      have h2 := (h1.front 1 rfl).all (l := [D, pureC (InSlice D v2 (ovT bs).2.bs)])
      obtain ⟨a2, c2, rfl, -, -, -, -⟩ := (h2.front 1 rfl).pure
      obtain ⟨vl, vt, h3⟩ := rec_open ((h2.erase 1 rfl).front 2 rfl)
      replace hM5 : Mem (boxC b2_0 (recCells ((ovT bs).1) vl vt) :: rowC 36 3 vl (ovT bs).1.cmd.legs.length (cellsL legE (ovT bs).1.cmd.legs) :: rowC 58 2 vt (ovT bs).1.cmd.taxes.length (cellsL taxE (ovT bs).1.cmd.taxes) :: D :: boxC b3_0 #[.slice a2 ((ovT bs).2.bs.length) c2, .func (.func 32) #[.pointer (some ⟨b3_0, 0, none⟩)] #[], .bool ((ovT bs).2.bad)] :: boxC b1_0 #[.int .u8 0, .int .u8 0, .int .u8 0, .int .u64 0, .int .u8 0, .string ByteArray.empty, .slice none 0 0, .int .i64 0, .slice none 0 0, .int .i64 0, .int .i64 0, .int .u8 0, .int .u64 0, .int .u8 0, .int .u8 0, .int .u64 0, .int .u8 0, .int .u8 0, .int .u16 0, .int .u32 0, .int .i64 0, .int .u8 0, .int .u32 0, .int .i64 0, .int .i64 0] :: R) w5 := h3
      obtain ⟨z5_4, hz5_4⟩ : ∃ z : Bool, z = ((ovT bs).2.bad) := ⟨_, rfl⟩
      refine region_seq 30 (fun zz e => (#[.pointer (some ⟨b3_0, 0, none⟩), .pointer (some ⟨b3_0, 0, none⟩), .pointer (some ⟨b3_0, 2, none⟩), .bool ((ovT bs).2.bad), .bool z5_4, (gd z5_4 false (.pointer (some ⟨b3_0, 0, none⟩))), (gd z5_4 false (.pointer (some ⟨b3_0, 0, none⟩))), (gd z5_4 false (.pointer (some ⟨b3_0, 0, none⟩))), (gd z5_4 false (.slice a2 ((ovT bs).2.bs.length) c2)), (gd z5_4 false (.int .i64 ((ovT bs).2.bs.length : Int))), (gd z5_4 false (.bool (decide (((ovT bs).2.bs.length : Int) > 0)))), .bool (z5_4 || (decide (((ovT bs).2.bs.length : Int) > 0)))] : Array Value).getD zz undef) (fun k e w => Mem (List.getD [boxC b2_0 (recCells ((ovT bs).1) vl vt) :: rowC 36 3 vl (ovT bs).1.cmd.legs.length (cellsL legE (ovT bs).1.cmd.legs) :: rowC 58 2 vt (ovT bs).1.cmd.taxes.length (cellsL taxE (ovT bs).1.cmd.taxes) :: D :: boxC b3_0 #[.slice a2 ((ovT bs).2.bs.length) c2, .func (.func 32) #[.pointer (some ⟨b3_0, 0, none⟩)] #[], .bool ((ovT bs).2.bad)] :: boxC b1_0 #[.int .u8 0, .int .u8 0, .int .u8 0, .int .u64 0, .int .u8 0, .string ByteArray.empty, .slice none 0 0, .int .i64 0, .slice none 0 0, .int .i64 0, .int .i64 0, .int .u8 0, .int .u64 0, .int .u8 0, .int .u8 0, .int .u64 0, .int .u8 0, .int .u8 0, .int .u16 0, .int .u32 0, .int .i64 0, .int .u8 0, .int .u32 0, .int .i64 0, .int .i64 0] :: R] k []) w) (fun _ => (0, undef)) [] [0, 0, 0, 0, 0, 0, 0, 0, 0, 0, 0, 0] (fun _ _ => false) hz5 (by kernel_rfl) (by kernel_rfl) (by kernel_rfl) ?_ (show Mem _ _ from hM5) ?_ ?_
      · exact ⟨fun _ _ _ => rfl, fun _ _ _ => rfl, fun _ _ _ => rfl, fun _ _ _ => rfl, fun _ _ _ => rfl, fun _ _ _ => rfl, fun _ _ _ => rfl, fun _ _ _ => rfl, fun _ _ _ => rfl, fun _ _ _ => rfl, fun _ _ _ => rfl, fun _ _ _ => rfl, trivial⟩
      ·
       refine ⟨?_, ?_, ?_, ?_, ?_, ?_, ?_, ?_, ?_, ?_, ?_, ?_, trivial⟩
       · exact op2 (a := 0) rfl fun e w ρ (hM : Mem _ w) E => res_ok (x_move rfl (E.o 5 _ rfl g5_5)) (goes_still rfl rfl hM)
       · exact op2 (a := 0) rfl fun e w ρ (hM : Mem _ w) E => res_ok (x_nil rfl (E.d 0 _ 16 rfl rfl rfl)) (goes_still rfl rfl hM)
       · exact op2 (a := 0) rfl fun e w ρ (hM : Mem _ w) E => res_ok (x_fieldAddr (off := 2) rfl (E.d 1 _ 17 rfl rfl rfl) (by kernel_rfl) rfl) (goes_still rfl rfl hM)
       · exact op2 (a := 0) rfl fun e w ρ (hM : Mem _ w) E => res_ok (x_load rfl (E.d 2 _ 18 rfl rfl rfl) (by kernel_rfl) ((hM.box 4 rfl).cell 2 rfl)) (goes_still rfl rfl hM)
       · exact op2 (a := 0) rfl fun e w ρ (hM : Mem _ w) E => res_ok (x_move rfl (E.d 3 _ 19 rfl rfl rfl)) (goes_still rfl (congrArg Value.bool hz5_4.symm) hM)
       · exact op3 (a := 0) z5_4 rfl (fun _ => rfl) rfl (fun hC _ => (gd_no hC).symm) fun hC e w ρ (hM : Mem _ w) E => res_ok (x_move rfl (E.o 5 _ rfl g5_5)) (goes_still rfl (gd_yes hC).symm hM)
       · exact op3 (a := 0) z5_4 rfl (fun _ => rfl) rfl (fun hC _ => (gd_no hC).symm) fun hC e w ρ (hM : Mem _ w) E => res_ok (x_nil rfl ((E.d 5 _ 21 rfl rfl rfl).trans (gd_yes hC))) (goes_still rfl (gd_yes hC).symm hM)
       · exact op3 (a := 0) z5_4 rfl (fun _ => rfl) rfl (fun hC _ => (gd_no hC).symm) fun hC e w ρ (hM : Mem _ w) E => res_ok (x_fieldAddr (off := 0) rfl ((E.d 6 _ 22 rfl rfl rfl).trans (gd_yes hC)) (by kernel_rfl) rfl) (goes_still rfl (gd_yes hC).symm hM)
       · exact op3 (a := 0) z5_4 rfl (fun _ => rfl) rfl (fun hC _ => (gd_no hC).symm) fun hC e w ρ (hM : Mem _ w) E => res_ok (x_load rfl ((E.d 7 _ 23 rfl rfl rfl).trans (gd_yes hC)) (by kernel_rfl) ((hM.box 4 rfl).cell 0 rfl)) (goes_still rfl (gd_yes hC).symm hM)
       ·
        refine op3 (a := 0) z5_4 rfl (fun _ => rfl) rfl (fun hC _ => (gd_no hC).symm) fun hC e w ρ (hM : Mem _ w) E => ?_
        have e24 : ρ (.tmp 24) = .slice a2 ((ovT bs).2.bs.length) c2 := ((E.d 8 _ 24 rfl rfl rfl).trans (gd_yes hC))
        exact res_ok (x_len (n := 1) rfl rfl rfl rfl (e24) (by kernel_rfl)) (goes_still rfl (gd_yes hC).symm hM)
       · exact op3 (a := 0) z5_4 rfl (fun _ => rfl) rfl (fun hC _ => (gd_no hC).symm) fun hC e w ρ (hM : Mem _ w) E => res_ok (x_gtr rfl ((E.d 9 _ 25 rfl rfl rfl).trans (gd_yes hC)) (E.c _) rfl) (goes_still rfl (gd_yes hC).symm hM)
       · exact op2 (a := 0) rfl fun e w ρ (hM : Mem _ w) E => res_ok (x_pickOr rfl (E.d 4 _ 20 rfl rfl rfl) (fun hC => ((E.d 10 _ 26 rfl rfl rfl).trans (gd_f hC))) (E.c _)) (goes_still rfl rfl hM)
      ·
       intro e a6 w6 hz6 hd hG hO hM
       have hd6 := hd.trans hd5
       have g2_6 := (hO 2 rfl).trans g2_5
       have g3_6 := (hO 3 rfl).trans g3_5
       have g4_6 := (hO 4 rfl).trans g4_5
       have g27_6 : a6.tmps[27]? = some (.bool (z5_4 || (decide (((ovT bs).2.bs.length : Int) > 0)))) := hG 11 _ 27 rfl rfl
       have hM6 : Mem (boxC b2_0 (recCells ((ovT bs).1) vl vt) :: rowC 36 3 vl (ovT bs).1.cmd.legs.length (cellsL legE (ovT bs).1.cmd.legs) :: rowC 58 2 vt (ovT bs).1.cmd.taxes.length (cellsL taxE (ovT bs).1.cmd.taxes) :: D :: boxC b3_0 #[.slice a2 ((ovT bs).2.bs.length) c2, .func (.func 32) #[.pointer (some ⟨b3_0, 0, none⟩)] #[], .bool ((ovT bs).2.bad)] :: boxC b1_0 #[.int .u8 0, .int .u8 0, .int .u8 0, .int .u64 0, .int .u8 0, .string ByteArray.empty, .slice none 0 0, .int .i64 0, .slice none 0 0, .int .i64 0, .int .i64 0, .int .u8 0, .int .u64 0, .int .u8 0, .int .u8 0, .int .u64 0, .int .u8 0, .int .u8 0, .int .u16 0, .int .u32 0, .int .i64 0, .int .u8 0, .int .u32 0, .int .i64 0, .int .i64 0] :: R) w6 := hM
       clear hM hG hO hd
       clear hz5 hd5 hM5 g2_5 g3_5 g4_5 g5_5
       refine then_n ?_
       cases hc1 : z5_4 || (decide (((ovT bs).2.bs.length : Int) > 0))
       ·
        refine cond_f (g27_6.trans (by rw [hc1])) ?_
        refine wp_skip ?_
        refine then_n ?_
        refine wp_seq ?_
        refine region_seq 30 (fun zz e => (#[.agg (recCells ((ovT bs).1) vl vt), undef, .int .i64 0] : Array Value).getD zz undef) (fun k e w => Mem (List.getD [boxC b2_0 (recCells ((ovT bs).1) vl vt) :: rowC 36 3 vl (ovT bs).1.cmd.legs.length (cellsL legE (ovT bs).1.cmd.legs) :: rowC 58 2 vt (ovT bs).1.cmd.taxes.length (cellsL taxE (ovT bs).1.cmd.taxes) :: D :: boxC b3_0 #[.slice a2 ((ovT bs).2.bs.length) c2, .func (.func 32) #[.pointer (some ⟨b3_0, 0, none⟩)] #[], .bool ((ovT bs).2.bad)] :: boxC b1_0 #[.int .u8 0, .int .u8 0, .int .u8 0, .int .u64 0, .int .u8 0, .string ByteArray.empty, .slice none 0 0, .int .i64 0, .slice none 0 0, .int .i64 0, .int .i64 0, .int .u8 0, .int .u64 0, .int .u8 0, .int .u8 0, .int .u64 0, .int .u8 0, .int .u8 0, .int .u16 0, .int .u32 0, .int .i64 0, .int .u8 0, .int .u32 0, .int .i64 0, .int .i64 0] :: R, boxC b2_0 (recCells ((ovT bs).1) vl vt) :: rowC 36 3 vl (ovT bs).1.cmd.legs.length (cellsL legE (ovT bs).1.cmd.legs) :: rowC 58 2 vt (ovT bs).1.cmd.taxes.length (cellsL taxE (ovT bs).1.cmd.taxes) :: D :: boxC b3_0 #[.slice a2 ((ovT bs).2.bs.length) c2, .func (.func 32) #[.pointer (some ⟨b3_0, 0, none⟩)] #[], .bool ((ovT bs).2.bad)] :: boxC b1_0 (recCells ((ovT bs).1) vl vt) :: R] k []) w) (fun _ => (0, undef)) [1] [0, 0, 1] (fun _ _ => false) hz6 (by kernel_rfl) (by kernel_rfl) (by kernel_rfl) ?_ (show Mem _ _ from hM6) ?_ ?_
        · exact ⟨fun _ _ _ => rfl, fun _ _ _ => rfl, fun _ _ _ => rfl, trivial⟩
        ·
         refine ⟨?_, ?_, ?_, trivial⟩
         · exact op2 (a := 0) rfl fun e w ρ (hM : Mem _ w) E => res_ok (x_loads rfl (E.o 4 _ rfl g4_6) (by kernel_rfl) (load_part (hM.box 0 rfl) [.int .u8 ((ovT bs).1.kind), .int .u8 ((ovT bs).1.cmd.kind), .int .u8 ((ovT bs).1.cmd.tick.c), .int .u64 ((ovT bs).1.cmd.tick.r), .int .u8 ((ovT bs).1.cmd.at_), .string ((ovT bs).1.cmd.name), vl, .int .i64 ((ovT bs).1.cmd.fare), vt, .int .i64 ((ovT bs).1.cmd.penalty), .int .i64 ((ovT bs).1.cmd.amount), .int .u8 ((ovT bs).1.frm), .int .u64 ((ovT bs).1.number), .int .u8 ((ovT bs).1.msg.kind), .int .u8 ((ovT bs).1.msg.tick.c), .int .u64 ((ovT bs).1.msg.tick.r), .int .u8 ((ovT bs).1.msg.at_), .int .u8 ((ovT bs).1.msg.leg.c), .int .u16 ((ovT bs).1.msg.leg.f), .int .u32 ((ovT bs).1.msg.leg.x), .int .i64 ((ovT bs).1.msg.value), .int .u8 ((ovT bs).1.msg.status), .int .u32 ((ovT bs).1.msg.nonce), .int .i64 ((ovT bs).1.msg.amount), .int .i64 ((ovT bs).1.msg.code)] rfl (Nat.le_of_ble_eq_true rfl) rfl)) (goes_still rfl rfl hM)
         ·
          refine op2 (a := 0) rfl fun e w ρ (hM : Mem _ w) E => ?_
          have e2 := E.o 2 _ rfl g2_6
          have e29 := E.d 0 _ 29 rfl rfl rfl
          have hrc0 := row_cell (hM.owns 1 rfl)
          have hrc1 := row_cell (hM.owns 2 rfl)
          obtain ⟨w', hr, hm⟩ := Mem.store (P := Try.prog) hM 5 rfl 44 0 (.agg (recCells ((ovT bs).1) vl vt)) [.int .u8 ((ovT bs).1.kind), .int .u8 ((ovT bs).1.cmd.kind), .int .u8 ((ovT bs).1.cmd.tick.c), .int .u64 ((ovT bs).1.cmd.tick.r), .int .u8 ((ovT bs).1.cmd.at_), .string ((ovT bs).1.cmd.name), vl, .int .i64 ((ovT bs).1.cmd.fare), vt, .int .i64 ((ovT bs).1.cmd.penalty), .int .i64 ((ovT bs).1.cmd.amount), .int .u8 ((ovT bs).1.frm), .int .u64 ((ovT bs).1.number), .int .u8 ((ovT bs).1.msg.kind), .int .u8 ((ovT bs).1.msg.tick.c), .int .u64 ((ovT bs).1.msg.tick.r), .int .u8 ((ovT bs).1.msg.at_), .int .u8 ((ovT bs).1.msg.leg.c), .int .u16 ((ovT bs).1.msg.leg.f), .int .u32 ((ovT bs).1.msg.leg.x), .int .i64 ((ovT bs).1.msg.value), .int .u8 ((ovT bs).1.msg.status), .int .u32 ((ovT bs).1.msg.nonce), .int .i64 ((ovT bs).1.msg.amount), .int .i64 ((ovT bs).1.msg.code)] rfl (by kernel_rfl) (Nat.le_of_ble_eq_true rfl) (by simp only [List.all_cons, List.all_nil, Bool.and_true, hrc0.2, hrc1.2]; rfl)
          exact res_st (x_store rfl (e2) (e29) hr) (goes_tick rfl (0, undef) rfl hm)
         · exact op2 (a := 1) rfl fun e w ρ (hM : Mem _ w) E => res_ok (x_assign rfl (E.c _)) (goes_still rfl rfl hM)
        ·
         intro e a7 w7 hz7 hd hG hO hM
         have hd7 := hd.trans hd6
         have g2_7 := (hO 2 rfl).trans g2_6
         have g3_7 : a7.tmps[3]? = some (.int .i64 0) := hG 2 _ 3 rfl rfl
         have hM7 : Mem (boxC b2_0 (recCells ((ovT bs).1) vl vt) :: rowC 36 3 vl (ovT bs).1.cmd.legs.length (cellsL legE (ovT bs).1.cmd.legs) :: rowC 58 2 vt (ovT bs).1.cmd.taxes.length (cellsL taxE (ovT bs).1.cmd.taxes) :: D :: boxC b3_0 #[.slice a2 ((ovT bs).2.bs.length) c2, .func (.func 32) #[.pointer (some ⟨b3_0, 0, none⟩)] #[], .bool ((ovT bs).2.bad)] :: boxC b1_0 (recCells ((ovT bs).1) vl vt) :: R) w7 := hM
         clear hM hG hO hd
         clear hz6 hd6 hM6 g2_6 g3_6 g4_6 g27_6
         refine then_n ?_
         refine wp_ret ?_
         have hb2 := hc1
         rw [hz5_4] at hb2
         have hbt : ¬ badT bs := by
          rintro (h | h)
          · rw [h] at hb2; cases hb2
          · rw [decide_eq_true h, Bool.or_true] at hb2; cases hb2
         have hE : getE bs = 0 := if_neg hbt
         have hG : getR bs = (ovT bs).1 := if_neg hbt
         refine ret_cv Try.results16 hd7 g2_7 (by kernel_rfl) (load_part (hM7.box 5 rfl) [.int .u8 ((ovT bs).1.kind), .int .u8 ((ovT bs).1.cmd.kind), .int .u8 ((ovT bs).1.cmd.tick.c), .int .u64 ((ovT bs).1.cmd.tick.r), .int .u8 ((ovT bs).1.cmd.at_), .string ((ovT bs).1.cmd.name), vl, .int .i64 ((ovT bs).1.cmd.fare), vt, .int .i64 ((ovT bs).1.cmd.penalty), .int .i64 ((ovT bs).1.cmd.amount), .int .u8 ((ovT bs).1.frm), .int .u64 ((ovT bs).1.number), .int .u8 ((ovT bs).1.msg.kind), .int .u8 ((ovT bs).1.msg.tick.c), .int .u64 ((ovT bs).1.msg.tick.r), .int .u8 ((ovT bs).1.msg.at_), .int .u8 ((ovT bs).1.msg.leg.c), .int .u16 ((ovT bs).1.msg.leg.f), .int .u32 ((ovT bs).1.msg.leg.x), .int .i64 ((ovT bs).1.msg.value), .int .u8 ((ovT bs).1.msg.status), .int .u32 ((ovT bs).1.msg.nonce), .int .i64 ((ovT bs).1.msg.amount), .int .i64 ((ovT bs).1.msg.code)] rfl (Nat.le_of_ble_eq_true rfl) rfl) g3_7 ?_
         exact ⟨vl, vt, by rw [hE, hG]; rfl, by rw [hG]; exact ((((((hM7.erase 5 rfl).erase 4 rfl).erase 0 rfl).front 2 rfl).front 2 rfl).front 2 rfl)⟩
       ·
        refine cond_t (g27_6.trans (by rw [hc1])) ?_
        refine wp_seq ?_
        refine region_seq 30 (fun zz e => (#[.agg #[.int .u8 0, .int .u8 0, .int .u8 0, .int .u64 0, .int .u8 0, .string ByteArray.empty, .slice none 0 0, .int .i64 0, .slice none 0 0, .int .i64 0, .int .i64 0, .int .u8 0, .int .u64 0, .int .u8 0, .int .u8 0, .int .u64 0, .int .u8 0, .int .u8 0, .int .u16 0, .int .u32 0, .int .i64 0, .int .u8 0, .int .u32 0, .int .i64 0, .int .i64 0], undef, .int .i64 140] : Array Value).getD zz undef) (fun k e w => Mem (List.getD [boxC b2_0 (recCells ((ovT bs).1) vl vt) :: rowC 36 3 vl (ovT bs).1.cmd.legs.length (cellsL legE (ovT bs).1.cmd.legs) :: rowC 58 2 vt (ovT bs).1.cmd.taxes.length (cellsL taxE (ovT bs).1.cmd.taxes) :: D :: boxC b3_0 #[.slice a2 ((ovT bs).2.bs.length) c2, .func (.func 32) #[.pointer (some ⟨b3_0, 0, none⟩)] #[], .bool ((ovT bs).2.bad)] :: boxC b1_0 #[.int .u8 0, .int .u8 0, .int .u8 0, .int .u64 0, .int .u8 0, .string ByteArray.empty, .slice none 0 0, .int .i64 0, .slice none 0 0, .int .i64 0, .int .i64 0, .int .u8 0, .int .u64 0, .int .u8 0, .int .u8 0, .int .u64 0, .int .u8 0, .int .u8 0, .int .u16 0, .int .u32 0, .int .i64 0, .int .u8 0, .int .u32 0, .int .i64 0, .int .i64 0] :: R, boxC b2_0 (recCells ((ovT bs).1) vl vt) :: rowC 36 3 vl (ovT bs).1.cmd.legs.length (cellsL legE (ovT bs).1.cmd.legs) :: rowC 58 2 vt (ovT bs).1.cmd.taxes.length (cellsL taxE (ovT bs).1.cmd.taxes) :: D :: boxC b3_0 #[.slice a2 ((ovT bs).2.bs.length) c2, .func (.func 32) #[.pointer (some ⟨b3_0, 0, none⟩)] #[], .bool ((ovT bs).2.bad)] :: boxC b1_0 #[.int .u8 0, .int .u8 0, .int .u8 0, .int .u64 0, .int .u8 0, .string ByteArray.empty, .slice none 0 0, .int .i64 0, .slice none 0 0, .int .i64 0, .int .i64 0, .int .u8 0, .int .u64 0, .int .u8 0, .int .u8 0, .int .u64 0, .int .u8 0, .int .u8 0, .int .u16 0, .int .u32 0, .int .i64 0, .int .u8 0, .int .u32 0, .int .i64 0, .int .i64 0] :: R] k []) w) (fun _ => (0, undef)) [1] [0, 0, 1] (fun _ _ => false) hz6 (by kernel_rfl) (by kernel_rfl) (by kernel_rfl) ?_ (show Mem _ _ from hM6) ?_ ?_
        · exact ⟨fun _ _ _ => rfl, fun _ _ _ => rfl, fun _ _ _ => rfl, trivial⟩
        ·
         refine ⟨?_, ?_, ?_, trivial⟩
         ·
          refine op2 (a := 0) rfl fun e w ρ (hM : Mem _ w) E => ?_
          exact res_ok (v := .agg #[.int .u8 0, .int .u8 0, .int .u8 0, .int .u64 0, .int .u8 0, .string ByteArray.empty, .slice none 0 0, .int .i64 0, .slice none 0 0, .int .i64 0, .int .i64 0, .int .u8 0, .int .u64 0, .int .u8 0, .int .u8 0, .int .u64 0, .int .u8 0, .int .u8 0, .int .u16 0, .int .u32 0, .int .i64 0, .int .u8 0, .int .u32 0, .int .i64 0, .int .i64 0]) (by simp [go_sem, execOp, Instr.build, Instr.fill, E.c, E.f] <;> rfl) (goes_still rfl rfl hM)
         ·
          refine op2 (a := 0) rfl fun e w ρ (hM : Mem _ w) E => ?_
          have e2 := E.o 2 _ rfl g2_6
          have e28 := E.d 0 _ 28 rfl rfl rfl
          obtain ⟨w', hr, hm⟩ := Mem.store (P := Try.prog) hM 5 rfl 44 0 (.agg #[.int .u8 0, .int .u8 0, .int .u8 0, .int .u64 0, .int .u8 0, .string ByteArray.empty, .slice none 0 0, .int .i64 0, .slice none 0 0, .int .i64 0, .int .i64 0, .int .u8 0, .int .u64 0, .int .u8 0, .int .u8 0, .int .u64 0, .int .u8 0, .int .u8 0, .int .u16 0, .int .u32 0, .int .i64 0, .int .u8 0, .int .u32 0, .int .i64 0, .int .i64 0]) [.int .u8 0, .int .u8 0, .int .u8 0, .int .u64 0, .int .u8 0, .string ByteArray.empty, .slice none 0 0, .int .i64 0, .slice none 0 0, .int .i64 0, .int .i64 0, .int .u8 0, .int .u64 0, .int .u8 0, .int .u8 0, .int .u64 0, .int .u8 0, .int .u8 0, .int .u16 0, .int .u32 0, .int .i64 0, .int .u8 0, .int .u32 0, .int .i64 0, .int .i64 0] rfl (by kernel_rfl) (Nat.le_of_ble_eq_true rfl) (by rfl)
          exact res_st (x_store rfl (e2) (e28) hr) (goes_tick rfl (0, undef) rfl hm)
         · exact op2 (a := 1) rfl fun e w ρ (hM : Mem _ w) E => res_ok (x_assign rfl (E.c _)) (goes_still rfl rfl hM)
        ·
         intro e a8 w8 hz8 hd hG hO hM
         have hd8 := hd.trans hd6
         have g2_8 := (hO 2 rfl).trans g2_6
         have g3_8 : a8.tmps[3]? = some (.int .i64 140) := hG 2 _ 3 rfl rfl
         have g4_8 := (hO 4 rfl).trans g4_6
         have hM8 : Mem (boxC b2_0 (recCells ((ovT bs).1) vl vt) :: rowC 36 3 vl (ovT bs).1.cmd.legs.length (cellsL legE (ovT bs).1.cmd.legs) :: rowC 58 2 vt (ovT bs).1.cmd.taxes.length (cellsL taxE (ovT bs).1.cmd.taxes) :: D :: boxC b3_0 #[.slice a2 ((ovT bs).2.bs.length) c2, .func (.func 32) #[.pointer (some ⟨b3_0, 0, none⟩)] #[], .bool ((ovT bs).2.bad)] :: boxC b1_0 #[.int .u8 0, .int .u8 0, .int .u8 0, .int .u64 0, .int .u8 0, .string ByteArray.empty, .slice none 0 0, .int .i64 0, .slice none 0 0, .int .i64 0, .int .i64 0, .int .u8 0, .int .u64 0, .int .u8 0, .int .u8 0, .int .u64 0, .int .u8 0, .int .u8 0, .int .u16 0, .int .u32 0, .int .i64 0, .int .u8 0, .int .u32 0, .int .i64 0, .int .i64 0] :: R) w8 := hM
         clear hM hG hO hd
         clear hz6 hd6 hM6 g2_6 g3_6 g4_6 g27_6
         refine then_n ?_
         refine wp_ret ?_
         refine then_r ?_
         have hb2 := hc1
         rw [hz5_4] at hb2
         have hbt : badT bs := by simpa only [Bool.or_eq_true, decide_eq_true_eq] using hb2
         have hE : getE bs = 140 := if_pos hbt
         have hG : getR bs = rec0 := if_pos hbt
         refine ret_cv Try.results16 hd8 g2_8 (by kernel_rfl) (load_part (hM8.box 5 rfl) [.int .u8 0, .int .u8 0, .int .u8 0, .int .u64 0, .int .u8 0, .string ByteArray.empty, .slice none 0 0, .int .i64 0, .slice none 0 0, .int .i64 0, .int .i64 0, .int .u8 0, .int .u64 0, .int .u8 0, .int .u8 0, .int .u64 0, .int .u8 0, .int .u8 0, .int .u16 0, .int .u32 0, .int .i64 0, .int .u8 0, .int .u32 0, .int .i64 0, .int .i64 0] rfl (Nat.le_of_ble_eq_true rfl) rfl) g3_8 ?_
         exact ⟨.slice none 0 0, .slice none 0 0, by rw [hE, hG]; rfl, by rw [hG]; exact (((((((((hM8.erase 5 rfl).erase 4 rfl).erase 2 rfl).erase 1 rfl).erase 0 rfl).front 0 rfl)).noRow 58 2).noRow 36 3)⟩
end Go.Proofs.Ytfcjmpgbohgoeaa
