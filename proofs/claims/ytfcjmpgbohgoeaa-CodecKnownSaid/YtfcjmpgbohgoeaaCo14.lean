/- CODEC: the laws' own helpers. -/
import Derived.Test.YtfcjmpgbohgoeaaCo13
namespace Go.Proofs.Ytfcjmpgbohgoeaa
open Go.RowKit Go.Lib Go.Tk Go.Shelf Go.Vc
set_option linter.unusedVariables false
set_option linter.unusedSimpArgs false
attribute [-go_sem] loadCellsFrom
def prt (v : Value) (i : Nat) : Value := match v with
 | .agg cs => cs.getD i undef
 | _ => undef
theorem newRow_mem {cs : List Chunk} {w : World} (h : Mem cs w) (E : TypeId) (size n : Nat) (xs : List Value) (hx : xs.length = n * size) (hn : n ≤ maxLen) : Mem (rowC E size (.slice (some ⟨w.heap.size, 0, none⟩) n n) n xs :: cs) (w.alloc (.cells xs.toArray E)) :=
 h.fresh (below_alloc _ _) (fun k => k = w.heap.size) ⟨fun g hg => by cases hg; rfl, hx, .inr ⟨w.heap.size, n, xs.toArray, rfl, ⟨E, (0, 0), (fun _ h => by cases h; rfl), show (w.heap.push _)[w.heap.size]? = _ from Array.getElem?_push_size, noFz_none _⟩, Nat.le_refl _, hn, by simpa using hx, by rw [← hx]; simp⟩⟩ (fun k hk => by subst hk; exact ⟨Nat.le_refl _, by simp⟩)
def bytesP : List Int := [3, 2, 0, 0, 0, 0, 0, 0, 1, 2]
def recP : RecV := ⟨3, cmd0, 2, 258, msg0⟩
theorem putE_P : putE recP = 0 := by kernel_rfl
theorem putB_P : putB recP = bytesP := by kernel_rfl
theorem getE_P : getE bytesP = 0 := by kernel_rfl
theorem getR_P : getR bytesP = recP := by kernel_rfl
theorem recW_P : RecW recP := ⟨by decide, by decide, by decide, by decide, by decide⟩
set_option maxRecDepth 100000 in
set_option maxHeartbeats 8000000 in
theorem puts_at (R : List Chunk) (w : World) (hM : Mem R w) :
  Calls Try.prog 15 #[] w fun e w' => e = .returned (.bool true) ∧ Mem R w' := by
 refine enter Try.func15 rfl Try.ntmps15 (Nat.le_of_ble_eq_true rfl) ?_
 intro a0 hz0 hd0 hg0
 clear hg0
 have hM0 : Mem (R) _ := hM
 refine wp_seq ?_
 refine region_seq 41 (fun zz e => (#[.bool false] : Array Value).getD zz undef) (fun k e w => Mem (List.getD [R] k []) w) (fun _ => (0, undef)) [] [0] (fun _ _ => false) hz0 (by kernel_rfl) (by kernel_rfl) (by kernel_rfl) ?_ (show Mem _ _ from hM0) ?_ ?_
 · exact ⟨fun _ _ _ => rfl, trivial⟩
 ·
  refine ⟨?_, trivial⟩
  · exact op2 (a := 0) rfl fun e w ρ (hM : Mem _ w) E => res_ok (x_assign rfl (E.c _)) (goes_still rfl rfl hM)
 ·
  intro e a1 w1 hz1 hd hG hO hM
  have hd1 := hd.trans hd0
  have g0_1 : a1.tmps[0]? = some (.bool false) := hG 0 _ 0 rfl rfl
  have hM1 : Mem (R) w1 := hM
  clear hM hG hO hd
  clear hz0 hd0 hM0
  refine then_n ?_
  refine wp_seq ?_
  refine region_seq 41 (fun zz e => (#[.agg #[.int .u8 3, .int .u8 0, .int .u8 0, .int .u64 0, .int .u8 0, .string ByteArray.empty, .slice none 0 0, .int .i64 0, .slice none 0 0, .int .i64 0, .int .i64 0, .int .u8 2, .int .u64 258, .int .u8 0, .int .u8 0, .int .u64 0, .int .u8 0, .int .u8 0, .int .u16 0, .int .u32 0, .int .i64 0, .int .u8 0, .int .u32 0, .int .i64 0, .int .i64 0], .tuple #[(e 0).2, .int .i64 0], .tuple #[(e 0).2, .int .i64 0], (e 0).2, .int .i64 0, (e 0).2, .int .i64 0] : Array Value).getD zz undef) (fun k e w => Mem (List.getD [R, rowC 5 1 (e 0).2 bytesP.length (bytesP.map (.int .u8)) :: R] k []) w) (fun _ => (0, undef)) [1] [0, 0, 1, 1, 1, 1, 1] (fun _ _ => false) hz1 (by kernel_rfl) (by kernel_rfl) (by kernel_rfl) ?_ (show Mem _ _ from hM1) ?_ ?_
  · exact ⟨fun _ _ _ => rfl, fun e e' h => congrArg (fun x : Rv => (.tuple #[x.2, .int .i64 0] : Value)) (h 0 (by decide)), fun e e' h => congrArg (fun x : Rv => (.tuple #[x.2, .int .i64 0] : Value)) (h 0 (by decide)), fun e e' h => congrArg (fun x : Rv => (x.2 : Value)) (h 0 (by decide)), fun _ _ _ => rfl, fun e e' h => congrArg (fun x : Rv => (x.2 : Value)) (h 0 (by decide)), fun _ _ _ => rfl, trivial⟩
  ·
   refine ⟨?_, ?_, ?_, ?_, ?_, ?_, ?_, trivial⟩
   ·
    refine op2 (a := 0) rfl fun e w ρ (hM : Mem _ w) E => ?_
    exact res_ok (v := .agg #[.int .u8 3, .int .u8 0, .int .u8 0, .int .u64 0, .int .u8 0, .string ByteArray.empty, .slice none 0 0, .int .i64 0, .slice none 0 0, .int .i64 0, .int .i64 0, .int .u8 2, .int .u64 258, .int .u8 0, .int .u8 0, .int .u64 0, .int .u8 0, .int .u8 0, .int .u16 0, .int .u32 0, .int .i64 0, .int .u8 0, .int .u32 0, .int .i64 0, .int .i64 0]) (by simp [go_sem, execOp, Instr.build, Instr.fill, E.c, E.f] <;> rfl) (goes_still rfl rfl hM)
   ·
    refine op2 (a := 0) rfl fun e w ρ (hM : Mem _ w) E => ?_
    have e6 : ρ (.tmp 6) = .agg #[.int .u8 3, .int .u8 0, .int .u8 0, .int .u64 0, .int .u8 0, .string ByteArray.empty, .slice none 0 0, .int .i64 0, .slice none 0 0, .int .i64 0, .int .i64 0, .int .u8 2, .int .u64 258, .int .u8 0, .int .u8 0, .int .u64 0, .int .u8 0, .int .u8 0, .int .u16 0, .int .u32 0, .int .i64 0, .int .u8 0, .int .u32 0, .int .i64 0, .int .i64 0] := E.d 0 _ 6 rfl rfl rfl
    refine res_in (x_call (args := #[.agg #[.int .u8 3, .int .u8 0, .int .u8 0, .int .u64 0, .int .u8 0, .string ByteArray.empty, .slice none 0 0, .int .i64 0, .slice none 0 0, .int .i64 0, .int .i64 0, .int .u8 2, .int .u64 258, .int .u8 0, .int .u8 0, .int .u64 0, .int .u8 0, .int .u8 0, .int .u16 0, .int .u32 0, .int .i64 0, .int .u8 0, .int .u32 0, .int .i64 0, .int .i64 0]]) rfl rfl (E.f _) (by simp [e6]) (by kernel_rfl)) ?_
    refine (put_at recP none none 0 0 _ _ hM Reads.nil Reads.nil recW_P).mono ?_
    rintro e' w' ⟨v', he, hm⟩
    rw [putE_P] at he
    rw [putB_P] at hm
    subst he
    exact ⟨_, rfl, goes_tick rfl (0, v') rfl hm⟩
   · exact op2 (a := 1) rfl fun e w ρ (hM : Mem _ w) E => res_ok (x_move rfl (E.d 1 _ 7 rfl rfl rfl)) (goes_still rfl rfl hM)
   ·
    refine op2 (a := 1) rfl fun e w ρ (hM : Mem _ w) E => ?_
    have e5 : ρ (.tmp 5) = .tuple #[(e 0).2, .int .i64 0] := E.d 2 _ 5 rfl rfl rfl
    exact res_ok (x_extract rfl (e5) rfl) (goes_still rfl rfl hM)
   ·
    refine op2 (a := 1) rfl fun e w ρ (hM : Mem _ w) E => ?_
    have e5 : ρ (.tmp 5) = .tuple #[(e 0).2, .int .i64 0] := E.d 2 _ 5 rfl rfl rfl
    exact res_ok (x_extract rfl (e5) rfl) (goes_still rfl rfl hM)
   · exact op2 (a := 1) rfl fun e w ρ (hM : Mem _ w) E => res_ok (x_assign rfl (E.d 3 _ 8 rfl rfl rfl)) (goes_still rfl rfl hM)
   · exact op2 (a := 1) rfl fun e w ρ (hM : Mem _ w) E => res_ok (x_assign rfl (E.d 4 _ 9 rfl rfl rfl)) (goes_still rfl rfl hM)
  ·
   intro e a2 w2 hz2 hd hG hO hM
   have hd2 := hd.trans hd1
   have g0_2 := (hO 0 rfl).trans g0_1
   have g1_2 : a2.tmps[1]? = some ((e 0).2) := hG 5 _ 1 rfl rfl
   have g2_2 : a2.tmps[2]? = some (.int .i64 0) := hG 6 _ 2 rfl rfl
   have hM2 : Mem (rowC 5 1 (e 0).2 bytesP.length (bytesP.map (.int .u8)) :: R) w2 := hM
   clear hM hG hO hd
   clear hz1 hd1 hM1 g0_1
   generalize (e 0).2 = v2_0 at *
   refine then_n ?_
   refine wp_seq ?_
   refine region_seq 41 (fun zz e => (#[.slice (some ⟨(e 0).1, 0, none⟩) 10 10, .tuple #[.agg #[.int .u8 3, .int .u8 0, .int .u8 0, .int .u64 0, .int .u8 0, .string ByteArray.empty, (prt (e 1).2 0), .int .i64 0, (prt (e 1).2 1), .int .i64 0, .int .i64 0, .int .u8 2, .int .u64 258, .int .u8 0, .int .u8 0, .int .u64 0, .int .u8 0, .int .u8 0, .int .u16 0, .int .u32 0, .int .i64 0, .int .u8 0, .int .u32 0, .int .i64 0, .int .i64 0], .int .i64 0], .tuple #[.agg #[.int .u8 3, .int .u8 0, .int .u8 0, .int .u64 0, .int .u8 0, .string ByteArray.empty, (prt (e 1).2 0), .int .i64 0, (prt (e 1).2 1), .int .i64 0, .int .i64 0, .int .u8 2, .int .u64 258, .int .u8 0, .int .u8 0, .int .u64 0, .int .u8 0, .int .u8 0, .int .u16 0, .int .u32 0, .int .i64 0, .int .u8 0, .int .u32 0, .int .i64 0, .int .i64 0], .int .i64 0], .agg #[.int .u8 3, .int .u8 0, .int .u8 0, .int .u64 0, .int .u8 0, .string ByteArray.empty, (prt (e 1).2 0), .int .i64 0, (prt (e 1).2 1), .int .i64 0, .int .i64 0, .int .u8 2, .int .u64 258, .int .u8 0, .int .u8 0, .int .u64 0, .int .u8 0, .int .u8 0, .int .u16 0, .int .u32 0, .int .i64 0, .int .u8 0, .int .u32 0, .int .i64 0, .int .i64 0], .int .i64 0, .pointer (some ⟨(e 2).1, 0, none⟩), undef, .int .i64 0] : Array Value).getD zz undef) (fun k e w => Mem (List.getD [rowC 5 1 v2_0 bytesP.length (bytesP.map (.int .u8)) :: R, rowC 5 1 (.slice (some ⟨(e 0).1, 0, none⟩) 10 10) 10 (bytesP.map (.int .u8)) :: rowC 5 1 v2_0 bytesP.length (bytesP.map (.int .u8)) :: R, rowC 36 3 (prt (e 1).2 0) recP.cmd.legs.length (cellsL legE recP.cmd.legs) :: rowC 58 2 (prt (e 1).2 1) recP.cmd.taxes.length (cellsL taxE recP.cmd.taxes) :: rowC 5 1 (.slice (some ⟨(e 0).1, 0, none⟩) 10 10) 10 (bytesP.map (.int .u8)) :: rowC 5 1 v2_0 bytesP.length (bytesP.map (.int .u8)) :: R, boxC ((e 2).1) #[.int .u8 0, .int .u8 0, .int .u8 0, .int .u64 0, .int .u8 0, .string ByteArray.empty, .slice none 0 0, .int .i64 0, .slice none 0 0, .int .i64 0, .int .i64 0, .int .u8 0, .int .u64 0, .int .u8 0, .int .u8 0, .int .u64 0, .int .u8 0, .int .u8 0, .int .u16 0, .int .u32 0, .int .i64 0, .int .u8 0, .int .u32 0, .int .i64 0, .int .i64 0] :: rowC 36 3 (prt (e 1).2 0) recP.cmd.legs.length (cellsL legE recP.cmd.legs) :: rowC 58 2 (prt (e 1).2 1) recP.cmd.taxes.length (cellsL taxE recP.cmd.taxes) :: rowC 5 1 (.slice (some ⟨(e 0).1, 0, none⟩) 10 10) 10 (bytesP.map (.int .u8)) :: rowC 5 1 v2_0 bytesP.length (bytesP.map (.int .u8)) :: R, boxC ((e 2).1) #[.int .u8 3, .int .u8 0, .int .u8 0, .int .u64 0, .int .u8 0, .string ByteArray.empty, (prt (e 1).2 0), .int .i64 0, (prt (e 1).2 1), .int .i64 0, .int .i64 0, .int .u8 2, .int .u64 258, .int .u8 0, .int .u8 0, .int .u64 0, .int .u8 0, .int .u8 0, .int .u16 0, .int .u32 0, .int .i64 0, .int .u8 0, .int .u32 0, .int .i64 0, .int .i64 0] :: rowC 36 3 (prt (e 1).2 0) recP.cmd.legs.length (cellsL legE recP.cmd.legs) :: rowC 58 2 (prt (e 1).2 1) recP.cmd.taxes.length (cellsL taxE recP.cmd.taxes) :: rowC 5 1 (.slice (some ⟨(e 0).1, 0, none⟩) 10 10) 10 (bytesP.map (.int .u8)) :: rowC 5 1 v2_0 bytesP.length (bytesP.map (.int .u8)) :: R] k []) w) (fun _ => (0, undef)) [0, 1, 5, 6] [0, 1, 2, 2, 2, 2, 3, 4] (fun _ _ => false) hz2 (by kernel_rfl) (by kernel_rfl) (by kernel_rfl) ?_ (show Mem _ _ from hM2) ?_ ?_
   · exact ⟨fun e e' h => congrArg (fun x : Rv => (.slice (some ⟨x.1, 0, none⟩) 10 10 : Value)) (h 0 (by decide)), fun e e' h => congrArg (fun x : Rv => (.tuple #[.agg #[.int .u8 3, .int .u8 0, .int .u8 0, .int .u64 0, .int .u8 0, .string ByteArray.empty, (prt x.2 0), .int .i64 0, (prt x.2 1), .int .i64 0, .int .i64 0, .int .u8 2, .int .u64 258, .int .u8 0, .int .u8 0, .int .u64 0, .int .u8 0, .int .u8 0, .int .u16 0, .int .u32 0, .int .i64 0, .int .u8 0, .int .u32 0, .int .i64 0, .int .i64 0], .int .i64 0] : Value)) (h 1 (by decide)), fun e e' h => congrArg (fun x : Rv => (.tuple #[.agg #[.int .u8 3, .int .u8 0, .int .u8 0, .int .u64 0, .int .u8 0, .string ByteArray.empty, (prt x.2 0), .int .i64 0, (prt x.2 1), .int .i64 0, .int .i64 0, .int .u8 2, .int .u64 258, .int .u8 0, .int .u8 0, .int .u64 0, .int .u8 0, .int .u8 0, .int .u16 0, .int .u32 0, .int .i64 0, .int .u8 0, .int .u32 0, .int .i64 0, .int .i64 0], .int .i64 0] : Value)) (h 1 (by decide)), fun e e' h => congrArg (fun x : Rv => (.agg #[.int .u8 3, .int .u8 0, .int .u8 0, .int .u64 0, .int .u8 0, .string ByteArray.empty, (prt x.2 0), .int .i64 0, (prt x.2 1), .int .i64 0, .int .i64 0, .int .u8 2, .int .u64 258, .int .u8 0, .int .u8 0, .int .u64 0, .int .u8 0, .int .u8 0, .int .u16 0, .int .u32 0, .int .i64 0, .int .u8 0, .int .u32 0, .int .i64 0, .int .i64 0] : Value)) (h 1 (by decide)), fun _ _ _ => rfl, fun e e' h => congrArg (fun x : Rv => (.pointer (some ⟨x.1, 0, none⟩) : Value)) (h 2 (by decide)), fun _ _ _ => rfl, fun _ _ _ => rfl, trivial⟩
   ·
    refine ⟨?_, ?_, ?_, ?_, ?_, ?_, ?_, ?_, trivial⟩
    ·
     refine op2 (a := 0) rfl fun e w ρ (hM : Mem _ w) E => ?_
     have h := newRow_mem hM 5 1 10 (bytesP.map (.int .u8)) rfl (by decide)
     refine res_ok (v := .slice (some ⟨w.heap.size, 0, none⟩) 10 10) (w' := w.alloc (.cells (bytesP.map (.int .u8)).toArray 5)) (by simp [go_sem, execOp, Instr.buildSlice, Instr.fill, newRow, E.c, bytesP] <;> rfl) (goes_tick rfl (w.heap.size, undef) rfl ?_)
     show Mem (rowC 5 1 (.slice (some ⟨(upd e 0 (w.heap.size, undef) 0).1, 0, none⟩) 10 10) 10 (bytesP.map (.int .u8)) :: rowC 5 1 v2_0 bytesP.length (bytesP.map (.int .u8)) :: R) _
     show Mem (rowC 5 1 (.slice (some ⟨w.heap.size, 0, none⟩) 10 10) 10 (bytesP.map (.int .u8)) :: rowC 5 1 v2_0 bytesP.length (bytesP.map (.int .u8)) :: R) _
     exact h
    ·
     refine op2 (a := 1) rfl fun e w ρ (hM : Mem _ w) E => ?_
     have e11 : ρ (.tmp 11) = .slice (some ⟨(e 0).1, 0, none⟩) 10 10 := E.d 0 _ 11 rfl rfl rfl
     refine res_in (x_call (args := #[.slice (some ⟨(e 0).1, 0, none⟩) 10 10]) rfl rfl (E.f _) (by simp [e11]) (by kernel_rfl)) ?_
     refine (get_at (some ⟨(e 0).1, 0, none⟩) 10 bytesP _ _ _ (hM.front 0 rfl) rd_row (by decide) (fun h => by cases h) (by decide) (by decide)).mono ?_
     rintro e' w' ⟨vl', vt', he, hm⟩
     rw [getE_P, getR_P] at he
     rw [getR_P] at hm
     subst he
     exact ⟨_, rfl, goes_tick rfl (0, .agg #[vl', vt']) rfl hm⟩
    · exact op2 (a := 2) rfl fun e w ρ (hM : Mem _ w) E => res_ok (x_move rfl (E.d 1 _ 12 rfl rfl rfl)) (goes_still rfl rfl hM)
    ·
     refine op2 (a := 2) rfl fun e w ρ (hM : Mem _ w) E => ?_
     have e10 : ρ (.tmp 10) = .tuple #[.agg #[.int .u8 3, .int .u8 0, .int .u8 0, .int .u64 0, .int .u8 0, .string ByteArray.empty, (prt (e 1).2 0), .int .i64 0, (prt (e 1).2 1), .int .i64 0, .int .i64 0, .int .u8 2, .int .u64 258, .int .u8 0, .int .u8 0, .int .u64 0, .int .u8 0, .int .u8 0, .int .u16 0, .int .u32 0, .int .i64 0, .int .u8 0, .int .u32 0, .int .i64 0, .int .i64 0], .int .i64 0] := E.d 2 _ 10 rfl rfl rfl
     exact res_ok (x_extract rfl (e10) rfl) (goes_still rfl rfl hM)
    ·
     refine op2 (a := 2) rfl fun e w ρ (hM : Mem _ w) E => ?_
     have e10 : ρ (.tmp 10) = .tuple #[.agg #[.int .u8 3, .int .u8 0, .int .u8 0, .int .u64 0, .int .u8 0, .string ByteArray.empty, (prt (e 1).2 0), .int .i64 0, (prt (e 1).2 1), .int .i64 0, .int .i64 0, .int .u8 2, .int .u64 258, .int .u8 0, .int .u8 0, .int .u64 0, .int .u8 0, .int .u8 0, .int .u16 0, .int .u32 0, .int .i64 0, .int .u8 0, .int .u32 0, .int .i64 0, .int .i64 0], .int .i64 0] := E.d 2 _ 10 rfl rfl rfl
     exact res_ok (x_extract rfl (e10) rfl) (goes_still rfl rfl hM)
    ·
     refine op2 (a := 2) rfl fun e w ρ (hM : Mem _ w) E => ?_
     exact res_ok (x_alloc (z := .agg #[.int .u8 0, .int .u8 0, .int .u8 0, .int .u64 0, .int .u8 0, .string ByteArray.empty, .slice none 0 0, .int .i64 0, .slice none 0 0, .int .i64 0, .int .i64 0, .int .u8 0, .int .u64 0, .int .u8 0, .int .u8 0, .int .u64 0, .int .u8 0, .int .u8 0, .int .u16 0, .int .u32 0, .int .i64 0, .int .u8 0, .int .u32 0, .int .i64 0, .int .i64 0]) rfl (by kernel_rfl)) (goes_tick rfl (w.heap.size, undef) rfl (hM.alloc _ _))
    ·
     refine op2 (a := 3) rfl fun e w ρ (hM : Mem _ w) E => ?_
     have e3 := E.d 5 _ 3 rfl rfl rfl
     have e13 := E.d 3 _ 13 rfl rfl rfl
     have hrc0 := row_cell (hM.owns 1 rfl)
     have hrc1 := row_cell (hM.owns 2 rfl)
     obtain ⟨w', hr, hm⟩ := Mem.store (P := Try.prog) hM 0 rfl 44 0 (.agg #[.int .u8 3, .int .u8 0, .int .u8 0, .int .u64 0, .int .u8 0, .string ByteArray.empty, (prt (e 1).2 0), .int .i64 0, (prt (e 1).2 1), .int .i64 0, .int .i64 0, .int .u8 2, .int .u64 258, .int .u8 0, .int .u8 0, .int .u64 0, .int .u8 0, .int .u8 0, .int .u16 0, .int .u32 0, .int .i64 0, .int .u8 0, .int .u32 0, .int .i64 0, .int .i64 0]) [.int .u8 3, .int .u8 0, .int .u8 0, .int .u64 0, .int .u8 0, .string ByteArray.empty, (prt (e 1).2 0), .int .i64 0, (prt (e 1).2 1), .int .i64 0, .int .i64 0, .int .u8 2, .int .u64 258, .int .u8 0, .int .u8 0, .int .u64 0, .int .u8 0, .int .u8 0, .int .u16 0, .int .u32 0, .int .i64 0, .int .u8 0, .int .u32 0, .int .i64 0, .int .i64 0] rfl (by kernel_rfl) (Nat.le_of_ble_eq_true rfl) (by simp only [List.all_cons, List.all_nil, Bool.and_true, hrc0.2, hrc1.2]; rfl)
     exact res_st (x_store rfl (e3) (e13) hr) (goes_tick rfl (0, undef) rfl hm)
    · exact op2 (a := 4) rfl fun e w ρ (hM : Mem _ w) E => res_ok (x_assign rfl (E.d 4 _ 14 rfl rfl rfl)) (goes_still rfl rfl hM)
   ·
    intro e a3 w3 hz3 hd hG hO hM
    have hd3 := hd.trans hd2
    have g0_3 := (hO 0 rfl).trans g0_2
    have g1_3 := (hO 1 rfl).trans g1_2
    have g2_3 := (hO 2 rfl).trans g2_2
    have g3_3 : a3.tmps[3]? = some (.pointer (some ⟨(e 2).1, 0, none⟩)) := hG 5 _ 3 rfl rfl
    have g4_3 : a3.tmps[4]? = some (.int .i64 0) := hG 7 _ 4 rfl rfl
    have hM3 : Mem (boxC ((e 2).1) #[.int .u8 3, .int .u8 0, .int .u8 0, .int .u64 0, .int .u8 0, .string ByteArray.empty, (prt (e 1).2 0), .int .i64 0, (prt (e 1).2 1), .int .i64 0, .int .i64 0, .int .u8 2, .int .u64 258, .int .u8 0, .int .u8 0, .int .u64 0, .int .u8 0, .int .u8 0, .int .u16 0, .int .u32 0, .int .i64 0, .int .u8 0, .int .u32 0, .int .i64 0, .int .i64 0] :: rowC 36 3 (prt (e 1).2 0) recP.cmd.legs.length (cellsL legE recP.cmd.legs) :: rowC 58 2 (prt (e 1).2 1) recP.cmd.taxes.length (cellsL taxE recP.cmd.taxes) :: rowC 5 1 (.slice (some ⟨(e 0).1, 0, none⟩) 10 10) 10 (bytesP.map (.int .u8)) :: rowC 5 1 v2_0 bytesP.length (bytesP.map (.int .u8)) :: R) w3 := hM
    clear hM hG hO hd
    clear hz2 hd2 hM2 g0_2 g1_2 g2_2
    generalize (e 0).1 = b3_0 at *
    generalize (e 2).1 = b3_2 at *
    generalize (e 1).2 = v3_1 at *
    refine then_n ?_
    refine wp_seq ?_
    refine region_seq 41 (fun zz e => (#[.int .i64 0, .bool true, .bool true, v2_0, .string (ofBytes bytesP), .bool true, .bool true, .bool true, .int .i64 0, .bool true, .bool true, .bool true, .pointer (some ⟨b3_2, 0, none⟩), .int .u8 3, .bool true, .bool true, .bool true, .pointer (some ⟨b3_2, 11, none⟩), .int .u8 2, .bool true, .bool true, .bool true, .pointer (some ⟨b3_2, 12, none⟩), .int .u64 258, .bool true, .bool true, .bool true] : Array Value).getD zz undef) (fun k e w => Mem (List.getD [boxC b3_2 #[.int .u8 3, .int .u8 0, .int .u8 0, .int .u64 0, .int .u8 0, .string ByteArray.empty, (prt v3_1 0), .int .i64 0, (prt v3_1 1), .int .i64 0, .int .i64 0, .int .u8 2, .int .u64 258, .int .u8 0, .int .u8 0, .int .u64 0, .int .u8 0, .int .u8 0, .int .u16 0, .int .u32 0, .int .i64 0, .int .u8 0, .int .u32 0, .int .i64 0, .int .i64 0] :: rowC 36 3 (prt v3_1 0) recP.cmd.legs.length (cellsL legE recP.cmd.legs) :: rowC 58 2 (prt v3_1 1) recP.cmd.taxes.length (cellsL taxE recP.cmd.taxes) :: rowC 5 1 (.slice (some ⟨b3_0, 0, none⟩) 10 10) 10 (bytesP.map (.int .u8)) :: rowC 5 1 v2_0 bytesP.length (bytesP.map (.int .u8)) :: R] k []) w) (fun _ => (0, undef)) [] [0, 0, 0, 0, 0, 0, 0, 0, 0, 0, 0, 0, 0, 0, 0, 0, 0, 0, 0, 0, 0, 0, 0, 0, 0, 0, 0] (fun _ _ => false) hz3 (by kernel_rfl) (by kernel_rfl) (by kernel_rfl) ?_ (show Mem _ _ from hM3) ?_ ?_
    · exact ⟨fun _ _ _ => rfl, fun _ _ _ => rfl, fun _ _ _ => rfl, fun _ _ _ => rfl, fun _ _ _ => rfl, fun _ _ _ => rfl, fun _ _ _ => rfl, fun _ _ _ => rfl, fun _ _ _ => rfl, fun _ _ _ => rfl, fun _ _ _ => rfl, fun _ _ _ => rfl, fun _ _ _ => rfl, fun _ _ _ => rfl, fun _ _ _ => rfl, fun _ _ _ => rfl, fun _ _ _ => rfl, fun _ _ _ => rfl, fun _ _ _ => rfl, fun _ _ _ => rfl, fun _ _ _ => rfl, fun _ _ _ => rfl, fun _ _ _ => rfl, fun _ _ _ => rfl, fun _ _ _ => rfl, fun _ _ _ => rfl, fun _ _ _ => rfl, trivial⟩
    ·
     refine ⟨?_, ?_, ?_, ?_, ?_, ?_, ?_, ?_, ?_, ?_, ?_, ?_, ?_, ?_, ?_, ?_, ?_, ?_, ?_, ?_, ?_, ?_, ?_, ?_, ?_, ?_, ?_, trivial⟩
     · exact op2 (a := 0) rfl fun e w ρ (hM : Mem _ w) E => res_ok (x_move rfl (E.o 2 _ rfl g2_3)) (goes_still rfl rfl hM)
     · exact op2 (a := 0) rfl fun e w ρ (hM : Mem _ w) E => res_ok (x_eql rfl (E.d 0 _ 15 rfl rfl rfl) (E.c _) (by decide)) (goes_still rfl rfl hM)
     · exact op2 (a := 0) rfl fun e w ρ (hM : Mem _ w) E => res_ok (x_move rfl (E.d 1 _ 16 rfl rfl rfl)) (goes_still rfl rfl hM)
     · exact op1 (a := 0) rfl fun e w ρ (hM : Mem _ w) E => (if_pos rfl).mpr (res_ok (x_move rfl (E.o 1 _ rfl g1_3)) (goes_still rfl rfl hM))
     ·
      refine op1 (a := 0) rfl fun e w ρ (hM : Mem _ w) E => ?_
      have e18 : ρ (.tmp 18) = v2_0 := E.d 3 _ 18 rfl rfl rfl
      refine (if_pos rfl).mpr ?_
      obtain ⟨a', c', hv, hrw, -⟩ := (hM.owns 4 rfl).row
      exact res_ok (x_convert rfl (e18.trans hv) (run_ofBytes (xs := bytesP) Try.underlying47 Try.underlying5 Try.underlying9 rfl hrw)) (goes_still rfl rfl hM)
     ·
      refine op1 (a := 0) rfl fun e w ρ (hM : Mem _ w) E => ?_
      have e19 : ρ (.tmp 19) = .string (ofBytes bytesP) := E.d 4 _ 19 rfl rfl rfl
      refine (if_pos rfl).mpr ?_
      exact res_ok (x_eqS rfl (e19) (E.c _) (by kernel_rfl)) (goes_still rfl rfl hM)
     ·
      refine op2 (a := 0) rfl fun e w ρ (hM : Mem _ w) E => ?_
      have e17 : ρ (.tmp 17) = .bool true := E.d 2 _ 17 rfl rfl rfl
      have e20 : ρ (.tmp 20) = .bool true := E.d 5 _ 20 rfl rfl rfl
      exact res_ok (x_pick rfl (e17) (e20)) (goes_still rfl rfl hM)
     · exact op2 (a := 0) rfl fun e w ρ (hM : Mem _ w) E => res_ok (x_move rfl (E.d 6 _ 21 rfl rfl rfl)) (goes_still rfl rfl hM)
     · exact op1 (a := 0) rfl fun e w ρ (hM : Mem _ w) E => (if_pos rfl).mpr (res_ok (x_move rfl (E.o 4 _ rfl g4_3)) (goes_still rfl rfl hM))
     · exact op1 (a := 0) rfl fun e w ρ (hM : Mem _ w) E => (if_pos rfl).mpr (res_ok (x_eql rfl (E.d 8 _ 23 rfl rfl rfl) (E.c _) (by decide)) (goes_still rfl rfl hM))
     ·
      refine op2 (a := 0) rfl fun e w ρ (hM : Mem _ w) E => ?_
      have e22 : ρ (.tmp 22) = .bool true := E.d 7 _ 22 rfl rfl rfl
      have e24 : ρ (.tmp 24) = .bool true := E.d 9 _ 24 rfl rfl rfl
      exact res_ok (x_pick rfl (e22) (e24)) (goes_still rfl rfl hM)
     · exact op2 (a := 0) rfl fun e w ρ (hM : Mem _ w) E => res_ok (x_move rfl (E.d 10 _ 25 rfl rfl rfl)) (goes_still rfl rfl hM)
     · exact op1 (a := 0) rfl fun e w ρ (hM : Mem _ w) E => (if_pos rfl).mpr (res_ok (x_fieldAddr (off := 0) rfl (E.o 3 _ rfl g3_3) (by kernel_rfl) rfl) (goes_still rfl rfl hM))
     · exact op1 (a := 0) rfl fun e w ρ (hM : Mem _ w) E => (if_pos rfl).mpr (res_ok (x_load rfl (E.d 12 _ 27 rfl rfl rfl) (by kernel_rfl) ((hM.box 0 rfl).cell 0 rfl)) (goes_still rfl rfl hM))
     · exact op1 (a := 0) rfl fun e w ρ (hM : Mem _ w) E => (if_pos rfl).mpr (res_ok (x_eql rfl (E.d 13 _ 28 rfl rfl rfl) (E.c _) (by decide)) (goes_still rfl rfl hM))
     ·
      refine op2 (a := 0) rfl fun e w ρ (hM : Mem _ w) E => ?_
      have e26 : ρ (.tmp 26) = .bool true := E.d 11 _ 26 rfl rfl rfl
      have e29 : ρ (.tmp 29) = .bool true := E.d 14 _ 29 rfl rfl rfl
      exact res_ok (x_pick rfl (e26) (e29)) (goes_still rfl rfl hM)
     · exact op2 (a := 0) rfl fun e w ρ (hM : Mem _ w) E => res_ok (x_move rfl (E.d 15 _ 30 rfl rfl rfl)) (goes_still rfl rfl hM)
     · exact op1 (a := 0) rfl fun e w ρ (hM : Mem _ w) E => (if_pos rfl).mpr (res_ok (x_fieldAddr (off := 11) rfl (E.o 3 _ rfl g3_3) (by kernel_rfl) rfl) (goes_still rfl rfl hM))
     · exact op1 (a := 0) rfl fun e w ρ (hM : Mem _ w) E => (if_pos rfl).mpr (res_ok (x_load rfl (E.d 17 _ 32 rfl rfl rfl) (by kernel_rfl) ((hM.box 0 rfl).cell 11 rfl)) (goes_still rfl rfl hM))
     · exact op1 (a := 0) rfl fun e w ρ (hM : Mem _ w) E => (if_pos rfl).mpr (res_ok (x_eql rfl (E.d 18 _ 33 rfl rfl rfl) (E.c _) (by decide)) (goes_still rfl rfl hM))
     ·
      refine op2 (a := 0) rfl fun e w ρ (hM : Mem _ w) E => ?_
      have e31 : ρ (.tmp 31) = .bool true := E.d 16 _ 31 rfl rfl rfl
      have e34 : ρ (.tmp 34) = .bool true := E.d 19 _ 34 rfl rfl rfl
      exact res_ok (x_pick rfl (e31) (e34)) (goes_still rfl rfl hM)
     · exact op2 (a := 0) rfl fun e w ρ (hM : Mem _ w) E => res_ok (x_move rfl (E.d 20 _ 35 rfl rfl rfl)) (goes_still rfl rfl hM)
     · exact op1 (a := 0) rfl fun e w ρ (hM : Mem _ w) E => (if_pos rfl).mpr (res_ok (x_fieldAddr (off := 12) rfl (E.o 3 _ rfl g3_3) (by kernel_rfl) rfl) (goes_still rfl rfl hM))
     · exact op1 (a := 0) rfl fun e w ρ (hM : Mem _ w) E => (if_pos rfl).mpr (res_ok (x_load rfl (E.d 22 _ 37 rfl rfl rfl) (by kernel_rfl) ((hM.box 0 rfl).cell 12 rfl)) (goes_still rfl rfl hM))
     · exact op1 (a := 0) rfl fun e w ρ (hM : Mem _ w) E => (if_pos rfl).mpr (res_ok (x_eql rfl (E.d 23 _ 38 rfl rfl rfl) (E.c _) (by decide)) (goes_still rfl rfl hM))
     ·
      refine op2 (a := 0) rfl fun e w ρ (hM : Mem _ w) E => ?_
      have e36 : ρ (.tmp 36) = .bool true := E.d 21 _ 36 rfl rfl rfl
      have e39 : ρ (.tmp 39) = .bool true := E.d 24 _ 39 rfl rfl rfl
      exact res_ok (x_pick rfl (e36) (e39)) (goes_still rfl rfl hM)
     · exact op2 (a := 0) rfl fun e w ρ (hM : Mem _ w) E => res_ok (x_assign rfl (E.d 25 _ 40 rfl rfl rfl)) (goes_still rfl rfl hM)
    ·
     intro e a4 w4 hz4 hd hG hO hM
     have hd4 := hd.trans hd3
     have g0_4 : a4.tmps[0]? = some (.bool true) := hG 26 _ 0 rfl rfl
     have hM4 : Mem (boxC b3_2 #[.int .u8 3, .int .u8 0, .int .u8 0, .int .u64 0, .int .u8 0, .string ByteArray.empty, (prt v3_1 0), .int .i64 0, (prt v3_1 1), .int .i64 0, .int .i64 0, .int .u8 2, .int .u64 258, .int .u8 0, .int .u8 0, .int .u64 0, .int .u8 0, .int .u8 0, .int .u16 0, .int .u32 0, .int .i64 0, .int .u8 0, .int .u32 0, .int .i64 0, .int .i64 0] :: rowC 36 3 (prt v3_1 0) recP.cmd.legs.length (cellsL legE recP.cmd.legs) :: rowC 58 2 (prt v3_1 1) recP.cmd.taxes.length (cellsL taxE recP.cmd.taxes) :: rowC 5 1 (.slice (some ⟨b3_0, 0, none⟩) 10 10) 10 (bytesP.map (.int .u8)) :: rowC 5 1 v2_0 bytesP.length (bytesP.map (.int .u8)) :: R) w4 := hM
     clear hM hG hO hd
     clear hz3 hd3 hM3 g0_3 g1_3 g2_3 g3_3 g4_3
     refine then_n ?_
     refine wp_ret ?_
     refine ret_1 Try.results15 hd4 g0_4 ?_
     exact ⟨rfl, hM4.tail.tail.tail.tail.tail⟩
end Go.Proofs.Ytfcjmpgbohgoeaa
