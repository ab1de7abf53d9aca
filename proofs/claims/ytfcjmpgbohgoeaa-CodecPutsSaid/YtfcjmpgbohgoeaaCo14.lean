/- CODEC: the laws' own helpers. -/
import Derived.Test.YtfcjmpgbohgoeaaCo13
namespace Go.Proofs.Ytfcjmpgbohgoeaa
open Go.RowKit Go.Lib Go.Tk Go.Shelf Go.Vc
set_option linter.unusedVariables false
set_option linter.unusedSimpArgs false
attribute [-go_sem] loadCellsFrom
def prt (v : Value) (i : Nat) : Value := match v with
 | .agg cs => cs.getD i undef
 | _ => undef
theorem newRow_mem {cs : List Chunk} {w : World} (h : Mem cs w) (E : TypeId) (size n : Nat) (xs : List Value) (hx : xs.length = n * size) (hn : n ≤ maxLen) : Mem (rowC E size (.slice (some ⟨w.heap.size, 0, none⟩) n n) n xs :: cs) (w.alloc (.cells xs.toArray E)) :=
 h.fresh (below_alloc _ _) (fun k => k = w.heap.size) ⟨fun g hg => by cases hg; rfl, hx, .inr ⟨w.heap.size, n, xs.toArray, rfl, ⟨E, (0, 0), (fun _ h => by cases h; rfl), show (w.heap.push _)[w.heap.size]? = _ from Array.getElem?_push_size, noFz_none _⟩, Nat.le_refl _, hn, by simpa using hx, by rw [← hx]; simp⟩⟩ (fun k hk => by subst hk; exact ⟨Nat.le_refl _, by simp⟩)
def bytesP : List Int := [3, 2, 0, 0, 0, 0, 0, 0, 1, 2]
def recP : RecV := ⟨3, cmd0, 2, 258, msg0⟩
theorem putE_P : putE recP = 0 := by kernel_rfl
theorem putB_P : putB recP = bytesP := by kernel_rfl
theorem getE_P : getE bytesP = 0 := by kernel_rfl
theorem getR_P : getR bytesP = recP := by kernel_rfl
theorem recW_P : RecW recP := ⟨by decide, by decide, by decide, by decide, by decide⟩
theorem any_step {α : Type} {p : α → Bool} {l : List α} {i : Nat} {x : α} (hx : l[i]? = some x) : (l.drop i).any p = (p x || (l.drop (i + 1)).any p) := by
 obtain ⟨h1, h2⟩ := List.getElem?_eq_some_iff.1 hx
 rw [List.drop_eq_getElem_cons h1, h2, List.any_cons]
def hugeT (t : TaxV) : Bool := decide ((t.code.size : Int) > 600)
def greatV (r : RecV) : Bool := ((decide ((r.cmd.name.size : Int) > 600) || decide ((r.cmd.legs.length : Int) > 600)) || decide ((r.cmd.taxes.length : Int) > 600)) || r.cmd.taxes.any hugeT
set_option maxRecDepth 100000 in
set_option maxHeartbeats 8000000 in
theorem puts_at (R : List Chunk) (w : World) (hM : Mem R w) :
  Calls Try.prog 15 #[] w fun e w' => e = .returned (.bool true) ∧ Mem R w' := by
 refine enter Try.func15 rfl Try.ntmps15 (Nat.le_of_ble_eq_true rfl) ?_
 intro a0 hz0 hd0 hg0
 clear hg0
 have hM0 : Mem (R) _ := hM
 refine wp_seq ?_
 refine region_seq 41 (fun zz e => (#[.bool false] : Array Value).getD zz undef) (fun k e w => Mem (List.getD [R] k []) w) (fun _ => (0, undef)) [] [0] (fun _ _ => false) hz0 (by kernel_rfl) (by kernel_rfl) (by kernel_rfl) ?_ (show Mem _ _ from hM0) ?_ ?_
 · exact ⟨fun _ _ _ => rfl, trivial⟩
 ·
  refine ⟨?_, trivial⟩
  · exact op2 (a := 0) rfl fun e w ρ (hM : Mem _ w) E => res_ok (x_assign rfl (E.c _)) (goes_still rfl rfl hM)
 ·
  intro e a1 w1 hz1 hd hG hO hM
  have hd1 := hd.trans hd0
  have g0_1 : a1.tmps[0]? = some (.bool false) := hG 0 _ 0 rfl rfl
  have hM1 : Mem (R) w1 := hM
  clear hM hG hO hd
  clear hz0 hd0 hM0
  refine then_n ?_
  refine wp_seq ?_
  refine region_seq 41 (fun zz e => (#[.agg #[.int .u8 3, .int .u8 0, .int .u8 0, .int .u64 0, .int .u8 0, .string ByteArray.empty, .slice none 0 0, .int .i64 0, .slice none 0 0, .int .i64 0, .int .i64 0, .int .u8 2, .int .u64 258, .int .u8 0, .int .u8 0, .int .u64 0, .int .u8 0, .int .u8 0, .int .u16 0, .int .u32 0, .int .i64 0, .int .u8 0, .int .u32 0, .int .i64 0, .int .i64 0], .tuple #[(e 0).2, .int .i64 0], .tuple #[(e 0).2, .int .i64 0], (e 0).2, .int .i64 0, (e 0).2, .int .i64 0] : Array Value).getD zz undef) (fun k e w => Mem (List.getD [R, rowC 5 1 (e 0).2 bytesP.length (bytesP.map (.int .u8)) :: R] k []) w) (fun _ => (0, undef)) [1] [0, 0, 1, 1, 1, 1, 1] (fun _ _ => false) hz1 (by kernel_rfl) (by kernel_rfl) (by kernel_rfl) ?_ (show Mem _ _ from hM1) ?_ ?_
  · exact ⟨fun _ _ _ => rfl, fun e e' h => congrArg (fun x : Rv => (.tuple #[x.2, .int .i64 0] : Value)) (h 0 (by decide)), fun e e' h => congrArg (fun x : Rv => (.tuple #[x.2, .int .i64 0] : Value)) (h 0 (by decide)), fun e e' h => congrArg (fun x : Rv => (x.2 : Value)) (h 0 (by decide)), fun _ _ _ => rfl, fun e e' h => congrArg (fun x : Rv => (x.2 : Value)) (h 0 (by decide)), fun _ _ _ => rfl, trivial⟩
  ·
   refine ⟨?_, ?_, ?_, ?_, ?_, ?_, ?_, trivial⟩
   ·
    refine op2 (a := 0) rfl fun e w ρ (hM : Mem _ w) E => ?_
    exact res_ok (v := .agg #[.int .u8 3, .int .u8 0, .int .u8 0, .int .u64 0, .int .u8 0, .string ByteArray.empty, .slice none 0 0, .int .i64 0, .slice none 0 0, .int .i64 0, .int .i64 0, .int .u8 2, .int .u64 258, .int .u8 0, .int .u8 0, .int .u64 0, .int .u8 0, .int .u8 0, .int .u16 0, .int .u32 0, .int .i64 0, .int .u8 0, .int .u32 0, .int .i64 0, .int .i64 0]) (by simp [go_sem, execOp, Instr.build, Instr.fill, E.c, E.f] <;> rfl) (goes_still rfl rfl hM)
   ·
    refine op2 (a := 0) rfl fun e w ρ (hM : Mem _ w) E => ?_
    have e6 : ρ (.tmp 6) = .agg #[.int .u8 3, .int .u8 0, .int .u8 0, .int .u64 0, .int .u8 0, .string ByteArray.empty, .slice none 0 0, .int .i64 0, .slice none 0 0, .int .i64 0, .int .i64 0, .int .u8 2, .int .u64 258, .int .u8 0, .int .u8 0, .int .u64 0, .int .u8 0, .int .u8 0, .int .u16 0, .int .u32 0, .int .i64 0, .int .u8 0, .int .u32 0, .int .i64 0, .int .i64 0] := E.d 0 _ 6 rfl rfl rfl
    refine res_in (x_call (args := #[.agg #[.int .u8 3, .int .u8 0, .int .u8 0, .int .u64 0, .int .u8 0, .string ByteArray.empty, .slice none 0 0, .int .i64 0, .slice none 0 0, .int .i64 0, .int .i64 0, .int .u8 2, .int .u64 258, .int .u8 0, .int .u8 0, .int .u64 0, .int .u8 0, .int .u8 0, .int .u16 0, .int .u32 0, .int .i64 0, .int .u8 0, .int .u32 0, .int .i64 0, .int .i64 0]]) rfl rfl (E.f _) (by simp [e6]) (by kernel_rfl)) ?_
    refine (put_at recP none none 0 0 _ _ hM Reads.nil Reads.nil recW_P).mono ?_
    rintro e' w' ⟨v', he, hm⟩
    rw [putE_P] at he
    rw [putB_P] at hm
    subst he
    exact ⟨_, rfl, goes_tick rfl (0, v') rfl hm⟩
   · exact op2 (a := 1) rfl fun e w ρ (hM : Mem _ w) E => res_ok (x_move rfl (E.d 1 _ 7 rfl rfl rfl)) (goes_still rfl rfl hM)
   ·
    refine op2 (a := 1) rfl fun e w ρ (hM : Mem _ w) E => ?_
    have e5 : ρ (.tmp 5) = .tuple #[(e 0).2, .int .i64 0] := E.d 2 _ 5 rfl rfl rfl
    exact res_ok (x_extract rfl (e5) rfl) (goes_still rfl rfl hM)
   ·
    refine op2 (a := 1) rfl fun e w ρ (hM : Mem _ w) E => ?_
    have e5 : ρ (.tmp 5) = .tuple #[(e 0).2, .int .i64 0] := E.d 2 _ 5 rfl rfl rfl
    exact res_ok (x_extract rfl (e5) rfl) (goes_still rfl rfl hM)
   · exact op2 (a := 1) rfl fun e w ρ (hM : Mem _ w) E => res_ok (x_assign rfl (E.d 3 _ 8 rfl rfl rfl)) (goes_still rfl rfl hM)
   · exact op2 (a := 1) rfl fun e w ρ (hM : Mem _ w) E => res_ok (x_assign rfl (E.d 4 _ 9 rfl rfl rfl)) (goes_still rfl rfl hM)
  ·
   intro e a2 w2 hz2 hd hG hO hM
   have hd2 := hd.trans hd1
   have g0_2 := (hO 0 rfl).trans g0_1
   have g1_2 : a2.tmps[1]? = some ((e 0).2) := hG 5 _ 1 rfl rfl
   have g2_2 : a2.tmps[2]? = some (.int .i64 0) := hG 6 _ 2 rfl rfl
   have hM2 : Mem (rowC 5 1 (e 0).2 bytesP.length (bytesP.map (.int .u8)) :: R) w2 := hM
   clear hM hG hO hd
   clear hz1 hd1 hM1 g0_1
   generalize (e 0).2 = v2_0 at *
   refine then_n ?_
   refine wp_seq ?_
   refine region_seq 41 (fun zz e => (#[.slice (some ⟨(e 0).1, 0, none⟩) 10 10, .tuple #[.agg #[.int .u8 3, .int .u8 0, .int .u8 0, .int .u64 0, .int .u8 0, .string ByteArray.empty, (prt (e 1).2 0), .int .i64 0, (prt (e 1).2 1), .int .i64 0, .int .i64 0, .int .u8 2, .int .u64 258, .int .u8 0, .int .u8 0, .int .u64 0, .int .u8 0, .int .u8 0, .int .u16 0, .int .u32 0, .int .i64 0, .int .u8 0, .int .u32 0, .int .i64 0, .int .i64 0], .int .i64 0], .tuple #[.agg #[.int .u8 3, .int .u8 0, .int .u8 0, .int .u64 0, .int .u8 0, .string ByteArray.empty, (prt (e 1).2 0), .int .i64 0, (prt (e 1).2 1), .int .i64 0, .int .i64 0, .int .u8 2, .int .u64 258, .int .u8 0, .int .u8 0, .int .u64 0, .int .u8 0, .int .u8 0, .int .u16 0, .int .u32 0, .int .i64 0, .int .u8 0, .int .u32 0, .int .i64 0, .int .i64 0], .int .i64 0], .agg #[.int .u8 3, .int .u8 0, .int .u8 0, .int .u64 0, .int .u8 0, .string ByteArray.empty, (prt (e 1).2 0), .int .i64 0, (prt (e 1).2 1), .int .i64 0, .int .i64 0, .int .u8 2, .int .u64 258, .int .u8 0, .int .u8 0, .int .u64 0, .int .u8 0, .int .u8 0, .int .u16 0, .int .u32 0, .int .i64 0, .int .u8 0, .int .u32 0, .int .i64 0, .int .i64 0], .int .i64 0, .pointer (some ⟨(e 2).1, 0, none⟩), undef, .int .i64 0] : Array Value).getD zz undef) (fun k e w => Mem (List.getD [rowC 5 1 v2_0 bytesP.length (bytesP.map (.int .u8)) :: R, rowC 5 1 (.slice (some ⟨(e 0).1, 0, none⟩) 10 10) 10 (bytesP.map (.int .u8)) :: rowC 5 1 v2_0 bytesP.length (bytesP.map (.int .u8)) :: R, rowC 36 3 (prt (e 1).2 0) recP.cmd.legs.length (cellsL legE recP.cmd.legs) :: rowC 58 2 (prt (e 1).2 1) recP.cmd.taxes.length (cellsL taxE recP.cmd.taxes) :: rowC 5 1 (.slice (some ⟨(e 0).1, 0, none⟩) 10 10) 10 (bytesP.map (.int .u8)) :: rowC 5 1 v2_0 bytesP.length (bytesP.map (.int .u8)) :: R, boxC ((e 2).1) #[.int .u8 0, .int .u8 0, .int .u8 0, .int .u64 0, .int .u8 0, .string ByteArray.empty, .slice none 0 0, .int .i64 0, .slice none 0 0, .int .i64 0, .int .i64 0, .int .u8 0, .int .u64 0, .int .u8 0, .int .u8 0, .int .u64 0, .int .u8 0, .int .u8 0, .int .u16 0, .int .u32 0, .int .i64 0, .int .u8 0, .int .u32 0, .int .i64 0, .int .i64 0] :: rowC 36 3 (prt (e 1).2 0) recP.cmd.legs.length (cellsL legE recP.cmd.legs) :: rowC 58 2 (prt (e 1).2 1) recP.cmd.taxes.length (cellsL taxE recP.cmd.taxes) :: rowC 5 1 (.slice (some ⟨(e 0).1, 0, none⟩) 10 10) 10 (bytesP.map (.int .u8)) :: rowC 5 1 v2_0 bytesP.length (bytesP.map (.int .u8)) :: R, boxC ((e 2).1) #[.int .u8 3, .int .u8 0, .int .u8 0, .int .u64 0, .int .u8 0, .string ByteArray.empty, (prt (e 1).2 0), .int .i64 0, (prt (e 1).2 1), .int .i64 0, .int .i64 0, .int .u8 2, .int .u64 258, .int .u8 0, .int .u8 0, .int .u64 0, .int .u8 0, .int .u8 0, .int .u16 0, .int .u32 0, .int .i64 0, .int .u8 0, .int .u32 0, .int .i64 0, .int .i64 0] :: rowC 36 3 (prt (e 1).2 0) recP.cmd.legs.length (cellsL legE recP.cmd.legs) :: rowC 58 2 (prt (e 1).2 1) recP.cmd.taxes.length (cellsL taxE recP.cmd.taxes) :: rowC 5 1 (.slice (some ⟨(e 0).1, 0, none⟩) 10 10) 10 (bytesP.map (.int .u8)) :: rowC 5 1 v2_0 bytesP.length (bytesP.map (.int .u8)) :: R] k []) w) (fun _ => (0, undef)) [0, 1, 5, 6] [0, 1, 2, 2, 2, 2, 3, 4] (fun _ _ => false) hz2 (by kernel_rfl) (by kernel_rfl) (by kernel_rfl) ?_ (show Mem _ _ from hM2) ?_ ?_
   · exact ⟨fun e e' h => congrArg (fun x : Rv => (.slice (some ⟨x.1, 0, none⟩) 10 10 : Value)) (h 0 (by decide)), fun e e' h => congrArg (fun x : Rv => (.tuple #[.agg #[.int .u8 3, .int .u8 0, .int .u8 0, .int .u64 0, .int .u8 0, .string ByteArray.empty, (prt x.2 0), .int .i64 0, (prt x.2 1), .int .i64 0, .int .i64 0, .int .u8 2, .int .u64 258, .int .u8 0, .int .u8 0, .int .u64 0, .int .u8 0, .int .u8 0, .int .u16 0, .int .u32 0, .int .i64 0, .int .u8 0, .int .u32 0, .int .i64 0, .int .i64 0], .int .i64 0] : Value)) (h 1 (by decide)), fun e e' h => congrArg (fun x : Rv => (.tuple #[.agg #[.int .u8 3, .int .u8 0, .int .u8 0, .int .u64 0, .int .u8 0, .string ByteArray.empty, (prt x.2 0), .int .i64 0, (prt x.2 1), .int .i64 0, .int .i64 0, .int .u8 2, .int .u64 258, .int .u8 0, .int .u8 0, .int .u64 0, .int .u8 0, .int .u8 0, .int .u16 0, .int .u32 0, .int .i64 0, .int .u8 0, .int .u32 0, .int .i64 0, .int .i64 0], .int .i64 0] : Value)) (h 1 (by decide)), fun e e' h => congrArg (fun x : Rv => (.agg #[.int .u8 3, .int .u8 0, .int .u8 0, .int .u64 0, .int .u8 0, .string ByteArray.empty, (prt x.2 0), .int .i64 0, (prt x.2 1), .int .i64 0, .int .i64 0, .int .u8 2, .int .u64 258, .int .u8 0, .int .u8 0, .int .u64 0, .int .u8 0, .int .u8 0, .int .u16 0, .int .u32 0, .int .i64 0, .int .u8 0, .int .u32 0, .int .i64 0, .int .i64 0] : Value)) (h 1 (by decide)), fun _ _ _ => rfl, fun e e' h => congrArg (fun x : Rv => (.pointer (some ⟨x.1, 0, none⟩) : Value)) (h 2 (by decide)), fun _ _ _ => rfl, fun _ _ _ => rfl, trivial⟩
   ·
    refine ⟨?_, ?_, ?_, ?_, ?_, ?_, ?_, ?_, trivial⟩
    ·
     refine op2 (a := 0) rfl fun e w ρ (hM : Mem _ w) E => ?_
     have h := newRow_mem hM 5 1 10 (bytesP.map (.int .u8)) rfl (by decide)
     refine res_ok (v := .slice (some ⟨w.heap.size, 0, none⟩) 10 10) (w' := w.alloc (.cells (bytesP.map (.int .u8)).toArray 5)) (by simp [go_sem, execOp, Instr.buildSlice, Instr.fill, newRow, E.c, bytesP] <;> rfl) (goes_tick rfl (w.heap.size, undef) rfl ?_)
     show Mem (rowC 5 1 (.slice (some ⟨(upd e 0 (w.heap.size, undef) 0).1, 0, none⟩) 10 10) 10 (bytesP.map (.int .u8)) :: rowC 5 1 v2_0 bytesP.length (bytesP.map (.int .u8)) :: R) _
     show Mem (rowC 5 1 (.slice (some ⟨w.heap.size, 0, none⟩) 10 10) 10 (bytesP.map (.int .u8)) :: rowC 5 1 v2_0 bytesP.length (bytesP.map (.int .u8)) :: R) _
     exact h
    ·
     refine op2 (a := 1) rfl fun e w ρ (hM : Mem _ w) E => ?_
     have e11 : ρ (.tmp 11) = .slice (some ⟨(e 0).1, 0, none⟩) 10 10 := E.d 0 _ 11 rfl rfl rfl
     refine res_in (x_call (args := #[.slice (some ⟨(e 0).1, 0, none⟩) 10 10]) rfl rfl (E.f _) (by simp [e11]) (by kernel_rfl)) ?_
     refine (get_at (some ⟨(e 0).1, 0, none⟩) 10 bytesP _ _ _ (hM.front 0 rfl) rd_row (by decide) (fun h => by cases h) (by decide) (by decide)).mono ?_
     rintro e' w' ⟨vl', vt', he, hm⟩
     rw [getE_P, getR_P] at he
     rw [getR_P] at hm
     subst he
     exact ⟨_, rfl, goes_tick rfl (0, .agg #[vl', vt']) rfl hm⟩
    · exact op2 (a := 2) rfl fun e w ρ (hM : Mem _ w) E => res_ok (x_move rfl (E.d 1 _ 12 rfl rfl rfl)) (goes_still rfl rfl hM)
    ·
     refine op2 (a := 2) rfl fun e w ρ (hM : Mem _ w) E => ?_
     have e10 : ρ (.tmp 10) = .tuple #[.agg #[.int .u8 3, .int .u8 0, .int .u8 0, .int .u64 0, .int .u8 0, .string ByteArray.empty, (prt (e 1).2 0), .int .i64 0, (prt (e 1).2 1), .int .i64 0, .int .i64 0, .int .u8 2, .int .u64 258, .int .u8 0, .int .u8 0, .int .u64 0, .int .u8 0, .int .u8 0, .int .u16 0, .int .u32 0, .int .i64 0, .int .u8 0, .int .u32 0, .int .i64 0, .int .i64 0], .int .i64 0] := E.d 2 _ 10 rfl rfl rfl
     exact res_ok (x_extract rfl (e10) rfl) (goes_still rfl rfl hM)
    ·
     refine op2 (a := 2) rfl fun e w ρ (hM : Mem _ w) E => ?_
     have e10 : ρ (.tmp 10) = .tuple #[.agg #[.int .u8 3, .int .u8 0, .int .u8 0, .int .u64 0, .int .u8 0, .string ByteArray.empty, (prt (e 1).2 0), .int .i64 0, (prt (e 1).2 1), .int .i64 0, .int .i64 0, .int .u8 2, .int .u64 258, .int .u8 0, .int .u8 0, .int .u64 0, .int .u8 0, .int .u8 0, .int .u16 0, .int .u32 0, .int .i64 0, .int .u8 0, .int .u32 0, .int .i64 0, .int .i64 0], .int .i64 0] := E.d 2 _ 10 rfl rfl rfl
     exact res_ok (x_extract rfl (e10) rfl) (goes_still rfl rfl hM)
    ·
     refine op2 (a := 2) rfl fun e w ρ (hM : Mem _ w) E => ?_
     exact res_ok (x_alloc (z := .agg #[.int .u8 0, .int .u8 0, .int .u8 0, .int .u64 0, .int .u8 0, .string ByteArray.empty, .slice none 0 0, .int .i64 0, .slice none 0 0, .int .i64 0, .int .i64 0, .int .u8 0, .int .u64 0, .int .u8 0, .int .u8 0, .int .u64 0, .int .u8 0, .int .u8 0, .int .u16 0, .int .u32 0, .int .i64 0, .int .u8 0, .int .u32 0, .int .i64 0, .int .i64 0]) rfl (by kernel_rfl)) (goes_tick rfl (w.heap.size, undef) rfl (hM.alloc _ _))
    ·
     refine op2 (a := 3) rfl fun e w ρ (hM : Mem _ w) E => ?_
     have e3 := E.d 5 _ 3 rfl rfl rfl
     have e13 := E.d 3 _ 13 rfl rfl rfl
     have hrc0 := row_cell (hM.owns 1 rfl)
     have hrc1 := row_cell (hM.owns 2 rfl)
     obtain ⟨w', hr, hm⟩ := Mem.store (P := Try.prog) hM 0 rfl 44 0 (.agg #[.int .u8 3, .int .u8 0, .int .u8 0, .int .u64 0, .int .u8 0, .string ByteArray.empty, (prt (e 1).2 0), .int .i64 0, (prt (e 1).2 1), .int .i64 0, .int .i64 0, .int .u8 2, .int .u64 258, .int .u8 0, .int .u8 0, .int .u64 0, .int .u8 0, .int .u8 0, .int .u16 0, .int .u32 0, .int .i64 0, .int .u8 0, .int .u32 0, .int .i64 0, .int .i64 0]) [.int .u8 3, .int .u8 0, .int .u8 0, .int .u64 0, .int .u8 0, .string ByteArray.empty, (prt (e 1).2 0), .int .i64 0, (prt (e 1).2 1), .int .i64 0, .int .i64 0, .int .u8 2, .int .u64 258, .int .u8 0, .int .u8 0, .int .u64 0, .int .u8 0, .int .u8 0, .int .u16 0, .int .u32 0, .int .i64 0, .int .u8 0, .int .u32 0, .int .i64 0, .int .i64 0] rfl (by kernel_rfl) (Nat.le_of_ble_eq_true rfl) (by simp only [List.all_cons, List.all_nil, Bool.and_true, hrc0.2, hrc1.2]; rfl)
     exact res_st (x_store rfl (e3) (e13) hr) (goes_tick rfl (0, undef) rfl hm)
    · exact op2 (a := 4) rfl fun e w ρ (hM : Mem _ w) E => res_ok (x_assign rfl (E.d 4 _ 14 rfl rfl rfl)) (goes_still rfl rfl hM)
   ·
    intro e a3 w3 hz3 hd hG hO hM
    have hd3 := hd.trans hd2
    have g0_3 := (hO 0 rfl).trans g0_2
    have g1_3 := (hO 1 rfl).trans g1_2
    have g2_3 := (hO 2 rfl).trans g2_2
    have g3_3 : a3.tmps[3]? = some (.pointer (some ⟨(e 2).1, 0, none⟩)) := hG 5 _ 3 rfl rfl
    have g4_3 : a3.tmps[4]? = some (.int .i64 0) := hG 7 _ 4 rfl rfl
    have hM3 : Mem (boxC ((e 2).1) #[.int .u8 3, .int .u8 0, .int .u8 0, .int .u64 0, .int .u8 0, .string ByteArray.empty, (prt (e 1).2 0), .int .i64 0, (prt (e 1).2 1), .int .i64 0, .int .i64 0, .int .u8 2, .int .u64 258, .int .u8 0, .int .u8 0, .int .u64 0, .int .u8 0, .int .u8 0, .int .u16 0, .int .u32 0, .int .i64 0, .int .u8 0, .int .u32 0, .int .i64 0, .int .i64 0] :: rowC 36 3 (prt (e 1).2 0) recP.cmd.legs.length (cellsL legE recP.cmd.legs) :: rowC 58 2 (prt (e 1).2 1) recP.cmd.taxes.length (cellsL taxE recP.cmd.taxes) :: rowC 5 1 (.slice (some ⟨(e 0).1, 0, none⟩) 10 10) 10 (bytesP.map (.int .u8)) :: rowC 5 1 v2_0 bytesP.length (bytesP.map (.int .u8)) :: R) w3 := hM
    clear hM hG hO hd
    clear hz2 hd2 hM2 g0_2 g1_2 g2_2
    generalize (e 0).1 = b3_0 at *
    generalize (e 2).1 = b3_2 at *
    generalize (e 1).2 = v3_1 at *
    refine then_n ?_
    refine wp_seq ?_
    refine region_seq 41 (fun zz e => (#[.int .i64 0, .bool true, .bool true, v2_0, .string (ofBytes bytesP), .bool true, .bool true, .bool true, .int .i64 0, .bool true, .bool true, .bool true, .pointer (some ⟨b3_2, 0, none⟩), .int .u8 3, .bool true, .bool true, .bool true, .pointer (some ⟨b3_2, 11, none⟩), .int .u8 2, .bool true, .bool true, .bool true, .pointer (some ⟨b3_2, 12, none⟩), .int .u64 258, .bool true, .bool true, .bool true] : Array Value).getD zz undef) (fun k e w => Mem (List.getD [boxC b3_2 #[.int .u8 3, .int .u8 0, .int .u8 0, .int .u64 0, .int .u8 0, .string ByteArray.empty, (prt v3_1 0), .int .i64 0, (prt v3_1 1), .int .i64 0, .int .i64 0, .int .u8 2, .int .u64 258, .int .u8 0, .int .u8 0, .int .u64 0, .int .u8 0, .int .u8 0, .int .u16 0, .int .u32 0, .int .i64 0, .int .u8 0, .int .u32 0, .int .i64 0, .int .i64 0] :: rowC 36 3 (prt v3_1 0) recP.cmd.legs.length (cellsL legE recP.cmd.legs) :: rowC 58 2 (prt v3_1 1) recP.cmd.taxes.length (cellsL taxE recP.cmd.taxes) :: rowC 5 1 (.slice (some ⟨b3_0, 0, none⟩) 10 10) 10 (bytesP.map (.int .u8)) :: rowC 5 1 v2_0 bytesP.length (bytesP.map (.int .u8)) :: R] k []) w) (fun _ => (0, undef)) [] [0, 0, 0, 0, 0, 0, 0, 0, 0, 0, 0, 0, 0, 0, 0, 0, 0, 0, 0, 0, 0, 0, 0, 0, 0, 0, 0] (fun _ _ => false) hz3 (by kernel_rfl) (by kernel_rfl) (by kernel_rfl) ?_ (show Mem _ _ from hM3) ?_ ?_
    · exact ⟨fun _ _ _ => rfl, fun _ _ _ => rfl, fun _ _ _ => rfl, fun _ _ _ => rfl, fun _ _ _ => rfl, fun _ _ _ => rfl, fun _ _ _ => rfl, fun _ _ _ => rfl, fun _ _ _ => rfl, fun _ _ _ => rfl, fun _ _ _ => rfl, fun _ _ _ => rfl, fun _ _ _ => rfl, fun _ _ _ => rfl, fun _ _ _ => rfl, fun _ _ _ => rfl, fun _ _ _ => rfl, fun _ _ _ => rfl, fun _ _ _ => rfl, fun _ _ _ => rfl, fun _ _ _ => rfl, fun _ _ _ => rfl, fun _ _ _ => rfl, fun _ _ _ => rfl, fun _ _ _ => rfl, fun _ _ _ => rfl, fun _ _ _ => rfl, trivial⟩
    ·
     refine ⟨?_, ?_, ?_, ?_, ?_, ?_, ?_, ?_, ?_, ?_, ?_, ?_, ?_, ?_, ?_, ?_, ?_, ?_, ?_, ?_, ?_, ?_, ?_, ?_, ?_, ?_, ?_, trivial⟩
     · exact op2 (a := 0) rfl fun e w ρ (hM : Mem _ w) E => res_ok (x_move rfl (E.o 2 _ rfl g2_3)) (goes_still rfl rfl hM)
     · exact op2 (a := 0) rfl fun e w ρ (hM : Mem _ w) E => res_ok (x_eql rfl (E.d 0 _ 15 rfl rfl rfl) (E.c _) (by decide)) (goes_still rfl rfl hM)
     · exact op2 (a := 0) rfl fun e w ρ (hM : Mem _ w) E => res_ok (x_move rfl (E.d 1 _ 16 rfl rfl rfl)) (goes_still rfl rfl hM)
     · exact op1 (a := 0) rfl fun e w ρ (hM : Mem _ w) E => (if_pos rfl).mpr (res_ok (x_move rfl (E.o 1 _ rfl g1_3)) (goes_still rfl rfl hM))
     ·
      refine op1 (a := 0) rfl fun e w ρ (hM : Mem _ w) E => ?_
      have e18 : ρ (.tmp 18) = v2_0 := E.d 3 _ 18 rfl rfl rfl
      refine (if_pos rfl).mpr ?_
      obtain ⟨a', c', hv, hrw, -⟩ := (hM.owns 4 rfl).row
      exact res_ok (x_convert rfl (e18.trans hv) (run_ofBytes (xs := bytesP) Try.underlying47 Try.underlying5 Try.underlying9 rfl hrw)) (goes_still rfl rfl hM)
     ·
      refine op1 (a := 0) rfl fun e w ρ (hM : Mem _ w) E => ?_
      have e19 : ρ (.tmp 19) = .string (ofBytes bytesP) := E.d 4 _ 19 rfl rfl rfl
      refine (if_pos rfl).mpr ?_
      exact res_ok (x_eqS rfl (e19) (E.c _) (by kernel_rfl)) (goes_still rfl rfl hM)
     ·
      refine op2 (a := 0) rfl fun e w ρ (hM : Mem _ w) E => ?_
      have e17 : ρ (.tmp 17) = .bool true := E.d 2 _ 17 rfl rfl rfl
      have e20 : ρ (.tmp 20) = .bool true := E.d 5 _ 20 rfl rfl rfl
      exact res_ok (x_pick rfl (e17) (e20)) (goes_still rfl rfl hM)
     · exact op2 (a := 0) rfl fun e w ρ (hM : Mem _ w) E => res_ok (x_move rfl (E.d 6 _ 21 rfl rfl rfl)) (goes_still rfl rfl hM)
     · exact op1 (a := 0) rfl fun e w ρ (hM : Mem _ w) E => (if_pos rfl).mpr (res_ok (x_move rfl (E.o 4 _ rfl g4_3)) (goes_still rfl rfl hM))
     · exact op1 (a := 0) rfl fun e w ρ (hM : Mem _ w) E => (if_pos rfl).mpr (res_ok (x_eql rfl (E.d 8 _ 23 rfl rfl rfl) (E.c _) (by decide)) (goes_still rfl rfl hM))
     ·
      refine op2 (a := 0) rfl fun e w ρ (hM : Mem _ w) E => ?_
      have e22 : ρ (.tmp 22) = .bool true := E.d 7 _ 22 rfl rfl rfl
      have e24 : ρ (.tmp 24) = .bool true := E.d 9 _ 24 rfl rfl rfl
      exact res_ok (x_pick rfl (e22) (e24)) (goes_still rfl rfl hM)
     · exact op2 (a := 0) rfl fun e w ρ (hM : Mem _ w) E => res_ok (x_move rfl (E.d 10 _ 25 rfl rfl rfl)) (goes_still rfl rfl hM)
     · exact op1 (a := 0) rfl fun e w ρ (hM : Mem _ w) E => (if_pos rfl).mpr (res_ok (x_fieldAddr (off := 0) rfl (E.o 3 _ rfl g3_3) (by kernel_rfl) rfl) (goes_still rfl rfl hM))
     · exact op1 (a := 0) rfl fun e w ρ (hM : Mem _ w) E => (if_pos rfl).mpr (res_ok (x_load rfl (E.d 12 _ 27 rfl rfl rfl) (by kernel_rfl) ((hM.box 0 rfl).cell 0 rfl)) (goes_still rfl rfl hM))
     · exact op1 (a := 0) rfl fun e w ρ (hM : Mem _ w) E => (if_pos rfl).mpr (res_ok (x_eql rfl (E.d 13 _ 28 rfl rfl rfl) (E.c _) (by decide)) (goes_still rfl rfl hM))
     ·
      refine op2 (a := 0) rfl fun e w ρ (hM : Mem _ w) E => ?_
      have e26 : ρ (.tmp 26) = .bool true := E.d 11 _ 26 rfl rfl rfl
      have e29 : ρ (.tmp 29) = .bool true := E.d 14 _ 29 rfl rfl rfl
      exact res_ok (x_pick rfl (e26) (e29)) (goes_still rfl rfl hM)
     · exact op2 (a := 0) rfl fun e w ρ (hM : Mem _ w) E => res_ok (x_move rfl (E.d 15 _ 30 rfl rfl rfl)) (goes_still rfl rfl hM)
     · exact op1 (a := 0) rfl fun e w ρ (hM : Mem _ w) E => (if_pos rfl).mpr (res_ok (x_fieldAddr (off := 11) rfl (E.o 3 _ rfl g3_3) (by kernel_rfl) rfl) (goes_still rfl rfl hM))
     · exact op1 (a := 0) rfl fun e w ρ (hM : Mem _ w) E => (if_pos rfl).mpr (res_ok (x_load rfl (E.d 17 _ 32 rfl rfl rfl) (by kernel_rfl) ((hM.box 0 rfl).cell 11 rfl)) (goes_still rfl rfl hM))
     · exact op1 (a := 0) rfl fun e w ρ (hM : Mem _ w) E => (if_pos rfl).mpr (res_ok (x_eql rfl (E.d 18 _ 33 rfl rfl rfl) (E.c _) (by decide)) (goes_still rfl rfl hM))
     ·
      refine op2 (a := 0) rfl fun e w ρ (hM : Mem _ w) E => ?_
      have e31 : ρ (.tmp 31) = .bool true := E.d 16 _ 31 rfl rfl rfl
      have e34 : ρ (.tmp 34) = .bool true := E.d 19 _ 34 rfl rfl rfl
      exact res_ok (x_pick rfl (e31) (e34)) (goes_still rfl rfl hM)
     · exact op2 (a := 0) rfl fun e w ρ (hM : Mem _ w) E => res_ok (x_move rfl (E.d 20 _ 35 rfl rfl rfl)) (goes_still rfl rfl hM)
     · exact op1 (a := 0) rfl fun e w ρ (hM : Mem _ w) E => (if_pos rfl).mpr (res_ok (x_fieldAddr (off := 12) rfl (E.o 3 _ rfl g3_3) (by kernel_rfl) rfl) (goes_still rfl rfl hM))
     · exact op1 (a := 0) rfl fun e w ρ (hM : Mem _ w) E => (if_pos rfl).mpr (res_ok (x_load rfl (E.d 22 _ 37 rfl rfl rfl) (by kernel_rfl) ((hM.box 0 rfl).cell 12 rfl)) (goes_still rfl rfl hM))
     · exact op1 (a := 0) rfl fun e w ρ (hM : Mem _ w) E => (if_pos rfl).mpr (res_ok (x_eql rfl (E.d 23 _ 38 rfl rfl rfl) (E.c _) (by decide)) (goes_still rfl rfl hM))
     ·
      refine op2 (a := 0) rfl fun e w ρ (hM : Mem _ w) E => ?_
      have e36 : ρ (.tmp 36) = .bool true := E.d 21 _ 36 rfl rfl rfl
      have e39 : ρ (.tmp 39) = .bool true := E.d 24 _ 39 rfl rfl rfl
      exact res_ok (x_pick rfl (e36) (e39)) (goes_still rfl rfl hM)
     · exact op2 (a := 0) rfl fun e w ρ (hM : Mem _ w) E => res_ok (x_assign rfl (E.d 25 _ 40 rfl rfl rfl)) (goes_still rfl rfl hM)
    ·
     intro e a4 w4 hz4 hd hG hO hM
     have hd4 := hd.trans hd3
     have g0_4 : a4.tmps[0]? = some (.bool true) := hG 26 _ 0 rfl rfl
     have hM4 : Mem (boxC b3_2 #[.int .u8 3, .int .u8 0, .int .u8 0, .int .u64 0, .int .u8 0, .string ByteArray.empty, (prt v3_1 0), .int .i64 0, (prt v3_1 1), .int .i64 0, .int .i64 0, .int .u8 2, .int .u64 258, .int .u8 0, .int .u8 0, .int .u64 0, .int .u8 0, .int .u8 0, .int .u16 0, .int .u32 0, .int .i64 0, .int .u8 0, .int .u32 0, .int .i64 0, .int .i64 0] :: rowC 36 3 (prt v3_1 0) recP.cmd.legs.length (cellsL legE recP.cmd.legs) :: rowC 58 2 (prt v3_1 1) recP.cmd.taxes.length (cellsL taxE recP.cmd.taxes) :: rowC 5 1 (.slice (some ⟨b3_0, 0, none⟩) 10 10) 10 (bytesP.map (.int .u8)) :: rowC 5 1 v2_0 bytesP.length (bytesP.map (.int .u8)) :: R) w4 := hM
     clear hM hG hO hd
     clear hz3 hd3 hM3 g0_3 g1_3 g2_3 g3_3 g4_3
     refine then_n ?_
     refine wp_ret ?_
     refine ret_1 Try.results15 hd4 g0_4 ?_
     exact ⟨rfl, hM4.tail.tail.tail.tail.tail⟩
set_option maxRecDepth 100000 in
set_option maxHeartbeats 8000000 in
theorem great_at (r : RecV) (al at1 : Option Addr) (cl ct : Nat) (R : List Chunk) (w : World) (hM : Mem R w) (ht : Reads R at1 (cellsL taxE r.cmd.taxes)) (hm : r.cmd.taxes.length ≤ maxLen) :
  Calls Try.prog 10 #[.agg (recCells r (.slice al r.cmd.legs.length cl) (.slice at1 r.cmd.taxes.length ct))] w fun e w' => e = .returned (.bool (greatV r)) ∧ Mem R w' := by
 unfold maxLen at hm
 refine enter Try.func10 rfl Try.ntmps10 (Nat.le_of_ble_eq_true rfl) ?_
 intro a0 hz0 hd0 hg0
 have g0_0 : a0.tmps[0]? = some (.agg (recCells r (.slice al r.cmd.legs.length cl) (.slice at1 r.cmd.taxes.length ct))) := hg0 0 _ rfl
 clear hg0
 have hM0 : Mem (R) _ := hM
 refine wp_seq ?_
 refine region_seq 39 (fun zz e => (#[.pointer (some ⟨(e 0).1, 0, none⟩), .bool false] : Array Value).getD zz undef) (fun k e w => Mem (List.getD [R, boxC ((e 0).1) (recCells r (.slice al r.cmd.legs.length cl) (.slice at1 r.cmd.taxes.length ct)) :: R] k []) w) (fun _ => (0, undef)) [0] [0, 1] (fun _ _ => false) hz0 (by kernel_rfl) (by kernel_rfl) (by kernel_rfl) ?_ (show Mem _ _ from hM0) ?_ ?_
 · exact ⟨fun e e' h => congrArg (fun x : Rv => (.pointer (some ⟨x.1, 0, none⟩) : Value)) (h 0 (by decide)), fun _ _ _ => rfl, trivial⟩
 ·
  refine ⟨?_, ?_, trivial⟩
  ·
   refine op2 (a := 0) rfl fun e w ρ (hM : Mem _ w) E => ?_
   have e0 : ρ (.tmp 0) = .agg (recCells r (.slice al r.cmd.legs.length cl) (.slice at1 r.cmd.taxes.length ct)) := E.o 0 _ rfl g0_0
   exact res_ok (x_box rfl (e0)) (goes_tick rfl (w.heap.size, undef) rfl (hM.alloc _ _))
  · exact op2 (a := 1) rfl fun e w ρ (hM : Mem _ w) E => res_ok (x_assign rfl (E.c _)) (goes_still rfl rfl hM)
 ·
  intro e a1 w1 hz1 hd hG hO hM
  have hd1 := hd.trans hd0
  have g1_1 : a1.tmps[1]? = some (.pointer (some ⟨(e 0).1, 0, none⟩)) := hG 0 _ 1 rfl rfl
  have g2_1 : a1.tmps[2]? = some (.bool false) := hG 1 _ 2 rfl rfl
  have hM1 : Mem (boxC ((e 0).1) (recCells r (.slice al r.cmd.legs.length cl) (.slice at1 r.cmd.taxes.length ct)) :: R) w1 := hM
  clear hM hG hO hd
  clear hz0 hd0 hM0 g0_0
  generalize (e 0).1 = b1_0 at *
  refine then_n ?_
  refine wp_seq ?_
  refine region_seq 39 (fun zz e => (#[.pointer (some ⟨b1_0, 1, none⟩), .pointer (some ⟨b1_0, 5, none⟩), .agg #[.string r.cmd.name, .slice al r.cmd.legs.length cl, .int .i64 r.cmd.fare, .slice at1 r.cmd.taxes.length ct, .int .i64 r.cmd.penalty], .pointer (some ⟨(e 0).1, 0, none⟩), undef] : Array Value).getD zz undef) (fun k e w => Mem (List.getD [boxC b1_0 (recCells r (.slice al r.cmd.legs.length cl) (.slice at1 r.cmd.taxes.length ct)) :: R, boxC ((e 0).1) #[.string ByteArray.empty, .slice none 0 0, .int .i64 0, .slice none 0 0, .int .i64 0] :: boxC b1_0 (recCells r (.slice al r.cmd.legs.length cl) (.slice at1 r.cmd.taxes.length ct)) :: R, boxC ((e 0).1) #[.string r.cmd.name, .slice al r.cmd.legs.length cl, .int .i64 r.cmd.fare, .slice at1 r.cmd.taxes.length ct, .int .i64 r.cmd.penalty] :: boxC b1_0 (recCells r (.slice al r.cmd.legs.length cl) (.slice at1 r.cmd.taxes.length ct)) :: R] k []) w) (fun _ => (0, undef)) [3, 4] [0, 0, 0, 0, 1] (fun _ _ => false) hz1 (by kernel_rfl) (by kernel_rfl) (by kernel_rfl) ?_ (show Mem _ _ from hM1) ?_ ?_
  · exact ⟨fun _ _ _ => rfl, fun _ _ _ => rfl, fun _ _ _ => rfl, fun e e' h => congrArg (fun x : Rv => (.pointer (some ⟨x.1, 0, none⟩) : Value)) (h 0 (by decide)), fun _ _ _ => rfl, trivial⟩
  ·
   refine ⟨?_, ?_, ?_, ?_, ?_, trivial⟩
   · exact op2 (a := 0) rfl fun e w ρ (hM : Mem _ w) E => res_ok (x_fieldAddr (off := 1) rfl (E.o 1 _ rfl g1_1) (by kernel_rfl) rfl) (goes_still rfl rfl hM)
   · exact op2 (a := 0) rfl fun e w ρ (hM : Mem _ w) E => res_ok (x_fieldAddr (off := 4) rfl (E.d 0 _ 5 rfl rfl rfl) (by kernel_rfl) rfl) (goes_still rfl rfl hM)
   · exact op2 (a := 0) rfl fun e w ρ (hM : Mem _ w) E => res_ok (x_loads rfl (E.d 1 _ 6 rfl rfl rfl) (by kernel_rfl) (load_part (hM.box 0 rfl) [.string r.cmd.name, .slice al r.cmd.legs.length cl, .int .i64 r.cmd.fare, .slice at1 r.cmd.taxes.length ct, .int .i64 r.cmd.penalty] rfl (Nat.le_of_ble_eq_true rfl) rfl)) (goes_still rfl rfl hM)
   ·
    refine op2 (a := 0) rfl fun e w ρ (hM : Mem _ w) E => ?_
    exact res_ok (x_alloc (z := .agg #[.string ByteArray.empty, .slice none 0 0, .int .i64 0, .slice none 0 0, .int .i64 0]) rfl (by kernel_rfl)) (goes_tick rfl (w.heap.size, undef) rfl (hM.alloc _ _))
   ·
    refine op2 (a := 1) rfl fun e w ρ (hM : Mem _ w) E => ?_
    have e3 := E.d 3 _ 3 rfl rfl rfl
    have e7 := E.d 2 _ 7 rfl rfl rfl
    obtain ⟨w', hr, hm⟩ := Mem.store (P := Try.prog) hM 0 rfl 28 0 (.agg #[.string r.cmd.name, .slice al r.cmd.legs.length cl, .int .i64 r.cmd.fare, .slice at1 r.cmd.taxes.length ct, .int .i64 r.cmd.penalty]) [.string r.cmd.name, .slice al r.cmd.legs.length cl, .int .i64 r.cmd.fare, .slice at1 r.cmd.taxes.length ct, .int .i64 r.cmd.penalty] rfl (by kernel_rfl) (Nat.le_of_ble_eq_true rfl) (by rfl)
    exact res_st (x_store rfl (e3) (e7) hr) (goes_tick rfl (0, undef) rfl hm)
  ·
   intro e a2 w2 hz2 hd hG hO hM
   have hd2 := hd.trans hd1
   have g2_2 := (hO 2 rfl).trans g2_1
   have g3_2 : a2.tmps[3]? = some (.pointer (some ⟨(e 0).1, 0, none⟩)) := hG 3 _ 3 rfl rfl
   have hM2 : Mem (boxC ((e 0).1) #[.string r.cmd.name, .slice al r.cmd.legs.length cl, .int .i64 r.cmd.fare, .slice at1 r.cmd.taxes.length ct, .int .i64 r.cmd.penalty] :: boxC b1_0 (recCells r (.slice al r.cmd.legs.length cl) (.slice at1 r.cmd.taxes.length ct)) :: R) w2 := hM
   clear hM hG hO hd
   clear hz1 hd1 hM1 g1_1 g2_1
   generalize (e 0).1 = b2_0 at *
   refine then_n ?_
   refine wp_seq ?_
   refine wp_seq ?_
   obtain ⟨z2_4, hz2_4⟩ : ∃ z : Bool, z = (decide ((r.cmd.name.size : Int) > 600)) := ⟨_, rfl⟩
   obtain ⟨z2_10, hz2_10⟩ : ∃ z : Bool, z = (z2_4 || (decide ((r.cmd.legs.length : Int) > 600))) := ⟨_, rfl⟩
   refine region_seq 39 (fun zz e => (#[.pointer (some ⟨b2_0, 0, none⟩), .string r.cmd.name, .int .i64 (r.cmd.name.size : Int), .bool (decide ((r.cmd.name.size : Int) > 600)), .bool z2_4, (gd z2_4 false (.pointer (some ⟨b2_0, 1, none⟩))), (gd z2_4 false (.slice al r.cmd.legs.length cl)), (gd z2_4 false (.int .i64 (r.cmd.legs.length : Int))), (gd z2_4 false (.bool (decide ((r.cmd.legs.length : Int) > 600)))), .bool (z2_4 || (decide ((r.cmd.legs.length : Int) > 600))), .bool z2_10, (gd z2_10 false (.pointer (some ⟨b2_0, 3, none⟩))), (gd z2_10 false (.slice at1 r.cmd.taxes.length ct)), (gd z2_10 false (.int .i64 (r.cmd.taxes.length : Int))), (gd z2_10 false (.bool (decide ((r.cmd.taxes.length : Int) > 600)))), .bool (z2_10 || (decide ((r.cmd.taxes.length : Int) > 600)))] : Array Value).getD zz undef) (fun k e w => Mem (List.getD [boxC b2_0 #[.string r.cmd.name, .slice al r.cmd.legs.length cl, .int .i64 r.cmd.fare, .slice at1 r.cmd.taxes.length ct, .int .i64 r.cmd.penalty] :: boxC b1_0 (recCells r (.slice al r.cmd.legs.length cl) (.slice at1 r.cmd.taxes.length ct)) :: R] k []) w) (fun _ => (0, undef)) [] [0, 0, 0, 0, 0, 0, 0, 0, 0, 0, 0, 0, 0, 0, 0, 0] (fun _ _ => false) hz2 (by kernel_rfl) (by kernel_rfl) (by kernel_rfl) ?_ (show Mem _ _ from hM2) ?_ ?_
   · exact ⟨fun _ _ _ => rfl, fun _ _ _ => rfl, fun _ _ _ => rfl, fun _ _ _ => rfl, fun _ _ _ => rfl, fun _ _ _ => rfl, fun _ _ _ => rfl, fun _ _ _ => rfl, fun _ _ _ => rfl, fun _ _ _ => rfl, fun _ _ _ => rfl, fun _ _ _ => rfl, fun _ _ _ => rfl, fun _ _ _ => rfl, fun _ _ _ => rfl, fun _ _ _ => rfl, trivial⟩
   ·
    refine ⟨?_, ?_, ?_, ?_, ?_, ?_, ?_, ?_, ?_, ?_, ?_, ?_, ?_, ?_, ?_, ?_, trivial⟩
    · exact op2 (a := 0) rfl fun e w ρ (hM : Mem _ w) E => res_ok (x_fieldAddr (off := 0) rfl (E.o 3 _ rfl g3_2) (by kernel_rfl) rfl) (goes_still rfl rfl hM)
    · exact op2 (a := 0) rfl fun e w ρ (hM : Mem _ w) E => res_ok (x_load rfl (E.d 0 _ 8 rfl rfl rfl) (by kernel_rfl) ((hM.box 0 rfl).cell 0 rfl)) (goes_still rfl rfl hM)
    ·
     refine op2 (a := 0) rfl fun e w ρ (hM : Mem _ w) E => ?_
     have e9 : ρ (.tmp 9) = .string r.cmd.name := E.d 1 _ 9 rfl rfl rfl
     exact res_ok (x_lenS rfl rfl rfl rfl (e9) (by kernel_rfl)) (goes_still rfl rfl hM)
    · exact op2 (a := 0) rfl fun e w ρ (hM : Mem _ w) E => res_ok (x_gtr rfl (E.d 2 _ 10 rfl rfl rfl) (E.c _) rfl) (goes_still rfl rfl hM)
    · exact op2 (a := 0) rfl fun e w ρ (hM : Mem _ w) E => res_ok (x_move rfl (E.d 3 _ 11 rfl rfl rfl)) (goes_still rfl (congrArg Value.bool hz2_4.symm) hM)
    · exact op3 (a := 0) z2_4 rfl (fun _ => rfl) rfl (fun hC _ => (gd_no hC).symm) fun hC e w ρ (hM : Mem _ w) E => res_ok (x_fieldAddr (off := 1) rfl (E.o 3 _ rfl g3_2) (by kernel_rfl) rfl) (goes_still rfl (gd_yes hC).symm hM)
    · exact op3 (a := 0) z2_4 rfl (fun _ => rfl) rfl (fun hC _ => (gd_no hC).symm) fun hC e w ρ (hM : Mem _ w) E => res_ok (x_load rfl ((E.d 5 _ 13 rfl rfl rfl).trans (gd_yes hC)) (by kernel_rfl) ((hM.box 0 rfl).cell 1 rfl)) (goes_still rfl (gd_yes hC).symm hM)
    ·
     refine op3 (a := 0) z2_4 rfl (fun _ => rfl) rfl (fun hC _ => (gd_no hC).symm) fun hC e w ρ (hM : Mem _ w) E => ?_
     have e14 : ρ (.tmp 14) = .slice al r.cmd.legs.length cl := ((E.d 6 _ 14 rfl rfl rfl).trans (gd_yes hC))
     exact res_ok (x_len (n := 3) rfl rfl rfl rfl (e14) (by kernel_rfl)) (goes_still rfl (gd_yes hC).symm hM)
    · exact op3 (a := 0) z2_4 rfl (fun _ => rfl) rfl (fun hC _ => (gd_no hC).symm) fun hC e w ρ (hM : Mem _ w) E => res_ok (x_gtr rfl ((E.d 7 _ 15 rfl rfl rfl).trans (gd_yes hC)) (E.c _) rfl) (goes_still rfl (gd_yes hC).symm hM)
    · exact op2 (a := 0) rfl fun e w ρ (hM : Mem _ w) E => res_ok (x_pickOr rfl (E.d 4 _ 12 rfl rfl rfl) (fun hC => ((E.d 8 _ 16 rfl rfl rfl).trans (gd_f hC))) (E.c _)) (goes_still rfl rfl hM)
    · exact op2 (a := 0) rfl fun e w ρ (hM : Mem _ w) E => res_ok (x_move rfl (E.d 9 _ 17 rfl rfl rfl)) (goes_still rfl (congrArg Value.bool hz2_10.symm) hM)
    · exact op3 (a := 0) z2_10 rfl (fun _ => rfl) rfl (fun hC _ => (gd_no hC).symm) fun hC e w ρ (hM : Mem _ w) E => res_ok (x_fieldAddr (off := 3) rfl (E.o 3 _ rfl g3_2) (by kernel_rfl) rfl) (goes_still rfl (gd_yes hC).symm hM)
    · exact op3 (a := 0) z2_10 rfl (fun _ => rfl) rfl (fun hC _ => (gd_no hC).symm) fun hC e w ρ (hM : Mem _ w) E => res_ok (x_load rfl ((E.d 11 _ 19 rfl rfl rfl).trans (gd_yes hC)) (by kernel_rfl) ((hM.box 0 rfl).cell 3 rfl)) (goes_still rfl (gd_yes hC).symm hM)
    ·
     refine op3 (a := 0) z2_10 rfl (fun _ => rfl) rfl (fun hC _ => (gd_no hC).symm) fun hC e w ρ (hM : Mem _ w) E => ?_
     have e20 : ρ (.tmp 20) = .slice at1 r.cmd.taxes.length ct := ((E.d 12 _ 20 rfl rfl rfl).trans (gd_yes hC))
     exact res_ok (x_len (n := 2) rfl rfl rfl rfl (e20) (by kernel_rfl)) (goes_still rfl (gd_yes hC).symm hM)
    · exact op3 (a := 0) z2_10 rfl (fun _ => rfl) rfl (fun hC _ => (gd_no hC).symm) fun hC e w ρ (hM : Mem _ w) E => res_ok (x_gtr rfl ((E.d 13 _ 21 rfl rfl rfl).trans (gd_yes hC)) (E.c _) rfl) (goes_still rfl (gd_yes hC).symm hM)
    · exact op2 (a := 0) rfl fun e w ρ (hM : Mem _ w) E => res_ok (x_pickOr rfl (E.d 10 _ 18 rfl rfl rfl) (fun hC => ((E.d 14 _ 22 rfl rfl rfl).trans (gd_f hC))) (E.c _)) (goes_still rfl rfl hM)
   ·
    intro e a3 w3 hz3 hd hG hO hM
    have hd3 := hd.trans hd2
    have g2_3 := (hO 2 rfl).trans g2_2
    have g3_3 := (hO 3 rfl).trans g3_2
    have g23_3 : a3.tmps[23]? = some (.bool (z2_10 || (decide ((r.cmd.taxes.length : Int) > 600)))) := hG 15 _ 23 rfl rfl
    have hM3 : Mem (boxC b2_0 #[.string r.cmd.name, .slice al r.cmd.legs.length cl, .int .i64 r.cmd.fare, .slice at1 r.cmd.taxes.length ct, .int .i64 r.cmd.penalty] :: boxC b1_0 (recCells r (.slice al r.cmd.legs.length cl) (.slice at1 r.cmd.taxes.length ct)) :: R) w3 := hM
    clear hM hG hO hd
    clear hz2 hd2 hM2 g2_2 g3_2
    refine then_n ?_
    cases hc1 : z2_10 || (decide ((r.cmd.taxes.length : Int) > 600))
    ·
     refine cond_f (g23_3.trans (by rw [hc1])) ?_
     refine wp_skip ?_
     refine then_n ?_
     refine wp_seq ?_
     refine wp_seq ?_
     refine region_seq 39 (fun zz e => (#[.int .i64 0] : Array Value).getD zz undef) (fun k e w => Mem (List.getD [boxC b2_0 #[.string r.cmd.name, .slice al r.cmd.legs.length cl, .int .i64 r.cmd.fare, .slice at1 r.cmd.taxes.length ct, .int .i64 r.cmd.penalty] :: boxC b1_0 (recCells r (.slice al r.cmd.legs.length cl) (.slice at1 r.cmd.taxes.length ct)) :: R] k []) w) (fun _ => (0, undef)) [] [0] (fun _ _ => false) hz3 (by kernel_rfl) (by kernel_rfl) (by kernel_rfl) ?_ (show Mem _ _ from hM3) ?_ ?_
     · exact ⟨fun _ _ _ => rfl, trivial⟩
     ·
      refine ⟨?_, trivial⟩
      · exact op2 (a := 0) rfl fun e w ρ (hM : Mem _ w) E => res_ok (x_assign rfl (E.c _)) (goes_still rfl rfl hM)
     ·
      intro e a4 w4 hz4 hd hG hO hM
      have hd4 := hd.trans hd3
      have g2_4 := (hO 2 rfl).trans g2_3
      have g3_4 := (hO 3 rfl).trans g3_3
      have g4_4 : a4.tmps[4]? = some (.int .i64 0) := hG 0 _ 4 rfl rfl
      have hM4 : Mem (boxC b2_0 #[.string r.cmd.name, .slice al r.cmd.legs.length cl, .int .i64 r.cmd.fare, .slice at1 r.cmd.taxes.length ct, .int .i64 r.cmd.penalty] :: boxC b1_0 (recCells r (.slice al r.cmd.legs.length cl) (.slice at1 r.cmd.taxes.length ct)) :: R) w4 := hM
      clear hM hG hO hd
      clear hz3 hd3 hM3 g2_3 g3_3 g23_3
      refine then_n ?_
      refine wp_block ?_
      refine loopx (X := Nat) (fun i aa ww => aa.tmps.size = 39 ∧ aa.defers = [] ∧ aa.tmps[3]? = some (.pointer (some ⟨b2_0, 0, none⟩)) ∧ aa.tmps[4]? = some (.int .i64 (i : Int)) ∧ Mem (boxC b2_0 #[.string r.cmd.name, .slice al r.cmd.legs.length cl, .int .i64 r.cmd.fare, .slice at1 r.cmd.taxes.length ct, .int .i64 r.cmd.penalty] :: boxC b1_0 (recCells r (.slice al r.cmd.legs.length cl) (.slice at1 r.cmd.taxes.length ct)) :: R) ww ∧ i ≤ r.cmd.taxes.length ∧ (r.cmd.taxes.drop i).any hugeT = r.cmd.taxes.any hugeT) (fun i => r.cmd.taxes.length - i) (0) ?_ ?_
      ·
       exact ⟨hz4, hd4, g3_4, (by have h := g4_4; exact h.trans (by congr 2 <;> first | rfl | omega)), (hM4), (Nat.zero_le _), (rfl)⟩
      ·
       clear hz4 hd4 hM4 g2_4 g3_4 g4_4
       rintro i a5 w5 hI
       obtain ⟨hz5, hd5, g3_5, g4_5, hM5, hi, hp⟩ := hI
       refine wp_seq ?_
       refine wp_seq ?_
       refine region_seq 39 (fun zz e => (#[.int .i64 (i : Int), .pointer (some ⟨b2_0, 3, none⟩), .slice at1 r.cmd.taxes.length ct, .int .i64 (r.cmd.taxes.length : Int), .bool (decide ((i : Int) < (r.cmd.taxes.length : Int)))] : Array Value).getD zz undef) (fun k e w => Mem (List.getD [boxC b2_0 #[.string r.cmd.name, .slice al r.cmd.legs.length cl, .int .i64 r.cmd.fare, .slice at1 r.cmd.taxes.length ct, .int .i64 r.cmd.penalty] :: boxC b1_0 (recCells r (.slice al r.cmd.legs.length cl) (.slice at1 r.cmd.taxes.length ct)) :: R] k []) w) (fun _ => (0, undef)) [] [0, 0, 0, 0, 0] (fun _ _ => false) hz5 (by kernel_rfl) (by kernel_rfl) (by kernel_rfl) ?_ (show Mem _ _ from hM5) ?_ ?_
       · exact ⟨fun _ _ _ => rfl, fun _ _ _ => rfl, fun _ _ _ => rfl, fun _ _ _ => rfl, fun _ _ _ => rfl, trivial⟩
       ·
        refine ⟨?_, ?_, ?_, ?_, ?_, trivial⟩
        · exact op2 (a := 0) rfl fun e w ρ (hM : Mem _ w) E => res_ok (x_move rfl (E.o 4 _ rfl g4_5)) (goes_still rfl rfl hM)
        · exact op2 (a := 0) rfl fun e w ρ (hM : Mem _ w) E => res_ok (x_fieldAddr (off := 3) rfl (E.o 3 _ rfl g3_5) (by kernel_rfl) rfl) (goes_still rfl rfl hM)
        · exact op2 (a := 0) rfl fun e w ρ (hM : Mem _ w) E => res_ok (x_load rfl (E.d 1 _ 25 rfl rfl rfl) (by kernel_rfl) ((hM.box 0 rfl).cell 3 rfl)) (goes_still rfl rfl hM)
        ·
         refine op2 (a := 0) rfl fun e w ρ (hM : Mem _ w) E => ?_
         have e26 : ρ (.tmp 26) = .slice at1 r.cmd.taxes.length ct := E.d 2 _ 26 rfl rfl rfl
         exact res_ok (x_len (n := 2) rfl rfl rfl rfl (e26) (by kernel_rfl)) (goes_still rfl rfl hM)
        · exact op2 (a := 0) rfl fun e w ρ (hM : Mem _ w) E => res_ok (x_lss rfl (E.d 0 _ 24 rfl rfl rfl) (E.d 3 _ 27 rfl rfl rfl) rfl) (goes_still rfl rfl hM)
       ·
        intro e a6 w6 hz6 hd hG hO hM
        have hd6 := hd.trans hd5
        have g3_6 := (hO 3 rfl).trans g3_5
        have g4_6 := (hO 4 rfl).trans g4_5
        have g24_6 : a6.tmps[24]? = some (.int .i64 (i : Int)) := hG 0 _ 24 rfl rfl
        have g25_6 : a6.tmps[25]? = some (.pointer (some ⟨b2_0, 3, none⟩)) := hG 1 _ 25 rfl rfl
        have g26_6 : a6.tmps[26]? = some (.slice at1 r.cmd.taxes.length ct) := hG 2 _ 26 rfl rfl
        have g27_6 : a6.tmps[27]? = some (.int .i64 (r.cmd.taxes.length : Int)) := hG 3 _ 27 rfl rfl
        have g28_6 : a6.tmps[28]? = some (.bool (decide ((i : Int) < (r.cmd.taxes.length : Int)))) := hG 4 _ 28 rfl rfl
        have hM6 : Mem (boxC b2_0 #[.string r.cmd.name, .slice al r.cmd.legs.length cl, .int .i64 r.cmd.fare, .slice at1 r.cmd.taxes.length ct, .int .i64 r.cmd.penalty] :: boxC b1_0 (recCells r (.slice al r.cmd.legs.length cl) (.slice at1 r.cmd.taxes.length ct)) :: R) w6 := hM
        clear hM hG hO hd
        clear hz5 hd5 hM5 g3_5 g4_5
        refine then_n ?_
        by_cases hic : (i : Int) < (r.cmd.taxes.length : Int)
        ·
         refine cond_t (g28_6.trans (by rw [decide_eq_true hic])) ?_
         obtain ⟨x, hx⟩ := list_at (show i < r.cmd.taxes.length by omega)
         obtain ⟨b1, o1, ha1, hk1⟩ := ht.elem (show ∀ x, (taxE x).length = 2 from fun _ => rfl) (by decide) hx hM6.tail.tail
         refine wp_skip ?_
         refine then_n ?_
         refine wp_seq ?_
         refine wp_block ?_
         refine wp_seq ?_
         refine region_seq 39 (fun zz e => (#[.pointer (some ⟨b2_0, 3, none⟩), .slice at1 r.cmd.taxes.length ct, .int .i64 (i : Int), .pointer (some ⟨b1, o1 + i * 2, none⟩), .pointer (some ⟨b1, o1 + i * 2, none⟩), .string x.code, .int .i64 (x.code.size : Int), .bool (decide ((x.code.size : Int) > 600))] : Array Value).getD zz undef) (fun k e w => Mem (List.getD [boxC b2_0 #[.string r.cmd.name, .slice al r.cmd.legs.length cl, .int .i64 r.cmd.fare, .slice at1 r.cmd.taxes.length ct, .int .i64 r.cmd.penalty] :: boxC b1_0 (recCells r (.slice al r.cmd.legs.length cl) (.slice at1 r.cmd.taxes.length ct)) :: R] k []) w) (fun _ => (0, undef)) [] [0, 0, 0, 0, 0, 0, 0, 0] (fun _ _ => false) hz6 (by kernel_rfl) (by kernel_rfl) (by kernel_rfl) ?_ (show Mem _ _ from hM6) ?_ ?_
         · exact ⟨fun _ _ _ => rfl, fun _ _ _ => rfl, fun _ _ _ => rfl, fun _ _ _ => rfl, fun _ _ _ => rfl, fun _ _ _ => rfl, fun _ _ _ => rfl, fun _ _ _ => rfl, trivial⟩
         ·
          refine ⟨?_, ?_, ?_, ?_, ?_, ?_, ?_, ?_, trivial⟩
          · exact op2 (a := 0) rfl fun e w ρ (hM : Mem _ w) E => res_ok (x_fieldAddr (off := 3) rfl (E.o 3 _ rfl g3_6) (by kernel_rfl) rfl) (goes_still rfl rfl hM)
          · exact op2 (a := 0) rfl fun e w ρ (hM : Mem _ w) E => res_ok (x_load rfl (E.d 0 _ 31 rfl rfl rfl) (by kernel_rfl) ((hM.box 0 rfl).cell 3 rfl)) (goes_still rfl rfl hM)
          · exact op2 (a := 0) rfl fun e w ρ (hM : Mem _ w) E => res_ok (x_move rfl (E.o 4 _ rfl g4_6)) (goes_still rfl rfl hM)
          ·
           refine op2 (a := 0) rfl fun e w ρ (hM : Mem _ w) E => ?_
           have e32 : ρ (.tmp 32) = .slice at1 r.cmd.taxes.length ct := E.d 1 _ 32 rfl rfl rfl
           have e33 : ρ (.tmp 33) = .int .i64 (i : Int) := E.d 2 _ 33 rfl rfl rfl
           exact res_ok (x_idx (n := 2) (i := i) rfl (show _ = Value.slice (some ⟨b1, o1, none⟩) (r.cmd.taxes.length) ct from by rw [← ha1]; exact e32) (e33) (by kernel_rfl) (by omega) rfl) (goes_still rfl rfl hM)
          · exact op2 (a := 0) rfl fun e w ρ (hM : Mem _ w) E => res_ok (x_fieldAddr (off := 0) rfl (E.d 3 _ 34 rfl rfl rfl) (by kernel_rfl) rfl) (goes_still rfl rfl hM)
          ·
           refine op2 (a := 0) rfl fun e w ρ (hM : Mem _ w) E => ?_
           have e35 : ρ (.tmp 35) = .pointer (some ⟨b1, o1 + i * 2, none⟩) := E.d 4 _ 35 rfl rfl rfl
           exact res_ok (x_load rfl (e35) (by kernel_rfl) (hk1 w hM.tail.tail 0 _ rfl)) (goes_still rfl rfl hM)
          ·
           refine op2 (a := 0) rfl fun e w ρ (hM : Mem _ w) E => ?_
           have e36 : ρ (.tmp 36) = .string x.code := E.d 5 _ 36 rfl rfl rfl
           exact res_ok (x_lenS rfl rfl rfl rfl (e36) (by kernel_rfl)) (goes_still rfl rfl hM)
          · exact op2 (a := 0) rfl fun e w ρ (hM : Mem _ w) E => res_ok (x_gtr rfl (E.d 6 _ 37 rfl rfl rfl) (E.c _) rfl) (goes_still rfl rfl hM)
         ·
          intro e a7 w7 hz7 hd hG hO hM
          have hd7 := hd.trans hd6
          have g3_7 := (hO 3 rfl).trans g3_6
          have g4_7 := (hO 4 rfl).trans g4_6
          have g24_7 := (hO 24 rfl).trans g24_6
          have g25_7 := (hO 25 rfl).trans g25_6
          have g26_7 := (hO 26 rfl).trans g26_6
          have g27_7 := (hO 27 rfl).trans g27_6
          have g28_7 := (hO 28 rfl).trans g28_6
          have g31_7 : a7.tmps[31]? = some (.pointer (some ⟨b2_0, 3, none⟩)) := hG 0 _ 31 rfl rfl
          have g32_7 : a7.tmps[32]? = some (.slice at1 r.cmd.taxes.length ct) := hG 1 _ 32 rfl rfl
          have g33_7 : a7.tmps[33]? = some (.int .i64 (i : Int)) := hG 2 _ 33 rfl rfl
          have g34_7 : a7.tmps[34]? = some (.pointer (some ⟨b1, o1 + i * 2, none⟩)) := hG 3 _ 34 rfl rfl
          have g35_7 : a7.tmps[35]? = some (.pointer (some ⟨b1, o1 + i * 2, none⟩)) := hG 4 _ 35 rfl rfl
          have g36_7 : a7.tmps[36]? = some (.string x.code) := hG 5 _ 36 rfl rfl
          have g37_7 : a7.tmps[37]? = some (.int .i64 (x.code.size : Int)) := hG 6 _ 37 rfl rfl
          have g38_7 : a7.tmps[38]? = some (.bool (decide ((x.code.size : Int) > 600))) := hG 7 _ 38 rfl rfl
          have hM7 : Mem (boxC b2_0 #[.string r.cmd.name, .slice al r.cmd.legs.length cl, .int .i64 r.cmd.fare, .slice at1 r.cmd.taxes.length ct, .int .i64 r.cmd.penalty] :: boxC b1_0 (recCells r (.slice al r.cmd.legs.length cl) (.slice at1 r.cmd.taxes.length ct)) :: R) w7 := hM
          clear hM hG hO hd
          clear hz6 hd6 hM6 g3_6 g4_6 g24_6 g25_6 g26_6 g27_6 g28_6
          refine then_n ?_
          by_cases hcs : (x.code.size : Int) > 600
          ·
           refine cond_t (g38_7.trans (by rw [decide_eq_true hcs])) ?_
           refine wp_seq ?_
           refine region_seq 39 (fun zz e => (#[.bool true] : Array Value).getD zz undef) (fun k e w => Mem (List.getD [boxC b2_0 #[.string r.cmd.name, .slice al r.cmd.legs.length cl, .int .i64 r.cmd.fare, .slice at1 r.cmd.taxes.length ct, .int .i64 r.cmd.penalty] :: boxC b1_0 (recCells r (.slice al r.cmd.legs.length cl) (.slice at1 r.cmd.taxes.length ct)) :: R] k []) w) (fun _ => (0, undef)) [] [0] (fun _ _ => false) hz7 (by kernel_rfl) (by kernel_rfl) (by kernel_rfl) ?_ (show Mem _ _ from hM7) ?_ ?_
           · exact ⟨fun _ _ _ => rfl, trivial⟩
           ·
            refine ⟨?_, trivial⟩
            · exact op2 (a := 0) rfl fun e w ρ (hM : Mem _ w) E => res_ok (x_assign rfl (E.c _)) (goes_still rfl rfl hM)
           ·
            intro e a8 w8 hz8 hd hG hO hM
            have hd8 := hd.trans hd7
            have g2_8 : a8.tmps[2]? = some (.bool true) := hG 0 _ 2 rfl rfl
            have g3_8 := (hO 3 rfl).trans g3_7
            have g4_8 := (hO 4 rfl).trans g4_7
            have g24_8 := (hO 24 rfl).trans g24_7
            have g25_8 := (hO 25 rfl).trans g25_7
            have g26_8 := (hO 26 rfl).trans g26_7
            have g27_8 := (hO 27 rfl).trans g27_7
            have g28_8 := (hO 28 rfl).trans g28_7
            have g31_8 := (hO 31 rfl).trans g31_7
            have g32_8 := (hO 32 rfl).trans g32_7
            have g33_8 := (hO 33 rfl).trans g33_7
            have g34_8 := (hO 34 rfl).trans g34_7
            have g35_8 := (hO 35 rfl).trans g35_7
            have g36_8 := (hO 36 rfl).trans g36_7
            have g37_8 := (hO 37 rfl).trans g37_7
            have g38_8 := (hO 38 rfl).trans g38_7
            have hM8 : Mem (boxC b2_0 #[.string r.cmd.name, .slice al r.cmd.legs.length cl, .int .i64 r.cmd.fare, .slice at1 r.cmd.taxes.length ct, .int .i64 r.cmd.penalty] :: boxC b1_0 (recCells r (.slice al r.cmd.legs.length cl) (.slice at1 r.cmd.taxes.length ct)) :: R) w8 := hM
            clear hM hG hO hd
            clear hz7 hd7 hM7 g3_7 g4_7 g24_7 g25_7 g26_7 g27_7 g28_7 g31_7 g32_7 g33_7 g34_7 g35_7 g36_7 g37_7 g38_7
            refine then_n ?_
            refine wp_ret ?_
            refine blk_r ?_
            refine then_r ?_
            refine then_r ?_
            refine blk_r ?_
            refine then_r ?_
            refine ret_1 Try.results10 hd8 g2_8 ?_
            have hg := hc1
            rw [hz2_10, hz2_4] at hg
            exact ⟨by unfold greatV; rw [← hp, any_step hx, show hugeT x = true from decide_eq_true hcs, Bool.true_or, Bool.or_true], hM8.tail.tail⟩
          ·
           refine cond_f (g38_7.trans (by rw [decide_eq_false hcs])) ?_
           refine wp_skip ?_
           refine blk_n ?_
           refine then_n ?_
           refine region_seq 39 (fun zz e => (#[.int .i64 (i : Int), .int .i64 ((i + 1 : Nat) : Int), .int .i64 ((i + 1 : Nat) : Int)] : Array Value).getD zz undef) (fun k e w => Mem (List.getD [boxC b2_0 #[.string r.cmd.name, .slice al r.cmd.legs.length cl, .int .i64 r.cmd.fare, .slice at1 r.cmd.taxes.length ct, .int .i64 r.cmd.penalty] :: boxC b1_0 (recCells r (.slice al r.cmd.legs.length cl) (.slice at1 r.cmd.taxes.length ct)) :: R] k []) w) (fun _ => (0, undef)) [] [0, 0, 0] (fun i t => (i == 0 && t == 4)) hz7 (by kernel_rfl) (by kernel_rfl) (by kernel_rfl) ?_ (show Mem _ _ from hM7) ?_ ?_
           · exact ⟨fun _ _ _ => rfl, fun _ _ _ => rfl, fun _ _ _ => rfl, trivial⟩
           ·
            refine ⟨?_, ?_, ?_, trivial⟩
            · exact op2 (a := 0) rfl fun e w ρ (hM : Mem _ w) E => res_ok (x_move rfl (E.o 4 _ rfl g4_7)) (goes_still rfl rfl hM)
            · exact op2 (a := 0) rfl fun e w ρ (hM : Mem _ w) E => res_ok (x_add rfl (E.d 0 _ 29 rfl rfl rfl) (E.c _) ((wr_i64 (by omega)).trans (by omega))) (goes_still rfl rfl hM)
            · exact op2 (a := 0) rfl fun e w ρ (hM : Mem _ w) E => res_ok (x_assign rfl (E.d 1 _ 30 rfl rfl rfl)) (goes_still rfl rfl hM)
           ·
            intro e a9 w9 hz9 hd hG hO hM
            have hd9 := hd.trans hd7
            have g3_9 := (hO 3 rfl).trans g3_7
            have g4_9 : a9.tmps[4]? = some (.int .i64 ((i + 1 : Nat) : Int)) := hG 2 _ 4 rfl rfl
            have g24_9 := (hO 24 rfl).trans g24_7
            have g25_9 := (hO 25 rfl).trans g25_7
            have g26_9 := (hO 26 rfl).trans g26_7
            have g27_9 := (hO 27 rfl).trans g27_7
            have g28_9 := (hO 28 rfl).trans g28_7
            have g29_9 : a9.tmps[29]? = some (.int .i64 (i : Int)) := hG 0 _ 29 rfl rfl
            have g30_9 : a9.tmps[30]? = some (.int .i64 ((i + 1 : Nat) : Int)) := hG 1 _ 30 rfl rfl
            have g31_9 := (hO 31 rfl).trans g31_7
            have g32_9 := (hO 32 rfl).trans g32_7
            have g33_9 := (hO 33 rfl).trans g33_7
            have g34_9 := (hO 34 rfl).trans g34_7
            have g35_9 := (hO 35 rfl).trans g35_7
            have g36_9 := (hO 36 rfl).trans g36_7
            have g37_9 := (hO 37 rfl).trans g37_7
            have g38_9 := (hO 38 rfl).trans g38_7
            have hM9 : Mem (boxC b2_0 #[.string r.cmd.name, .slice al r.cmd.legs.length cl, .int .i64 r.cmd.fare, .slice at1 r.cmd.taxes.length ct, .int .i64 r.cmd.penalty] :: boxC b1_0 (recCells r (.slice al r.cmd.legs.length cl) (.slice at1 r.cmd.taxes.length ct)) :: R) w9 := hM
            clear hM hG hO hd
            clear hz7 hd7 hM7 g3_7 g4_7 g24_7 g25_7 g26_7 g27_7 g28_7 g31_7 g32_7 g33_7 g34_7 g35_7 g36_7 g37_7 g38_7
            refine then_n ?_
            exact ⟨i + 1, by omega, ⟨hz9, hd9, g3_9, (by have h := g4_9; exact h.trans (by congr 2 <;> first | rfl | omega)), (hM9), (by omega), (by rw [← hp, any_step hx, show hugeT x = false from decide_eq_false hcs, Bool.false_or])⟩⟩
        ·
         refine cond_f (g28_6.trans (by rw [decide_eq_false hic])) ?_
         refine wp_exit ?_
         refine then_x ?_
         refine then_x ?_
         refine blk_x ?_
         refine then_n ?_
         refine wp_seq ?_
         refine region_seq 39 (fun zz e => (#[.bool false] : Array Value).getD zz undef) (fun k e w => Mem (List.getD [boxC b2_0 #[.string r.cmd.name, .slice al r.cmd.legs.length cl, .int .i64 r.cmd.fare, .slice at1 r.cmd.taxes.length ct, .int .i64 r.cmd.penalty] :: boxC b1_0 (recCells r (.slice al r.cmd.legs.length cl) (.slice at1 r.cmd.taxes.length ct)) :: R] k []) w) (fun _ => (0, undef)) [] [0] (fun _ _ => false) hz6 (by kernel_rfl) (by kernel_rfl) (by kernel_rfl) ?_ (show Mem _ _ from hM6) ?_ ?_
         · exact ⟨fun _ _ _ => rfl, trivial⟩
         ·
          refine ⟨?_, trivial⟩
          · exact op2 (a := 0) rfl fun e w ρ (hM : Mem _ w) E => res_ok (x_assign rfl (E.c _)) (goes_still rfl rfl hM)
         ·
          intro e a10 w10 hz10 hd hG hO hM
          have hd10 := hd.trans hd6
          have g2_10 : a10.tmps[2]? = some (.bool false) := hG 0 _ 2 rfl rfl
          have hM10 : Mem (boxC b2_0 #[.string r.cmd.name, .slice al r.cmd.legs.length cl, .int .i64 r.cmd.fare, .slice at1 r.cmd.taxes.length ct, .int .i64 r.cmd.penalty] :: boxC b1_0 (recCells r (.slice al r.cmd.legs.length cl) (.slice at1 r.cmd.taxes.length ct)) :: R) w10 := hM
          clear hM hG hO hd
          clear hz6 hd6 hM6 g3_6 g4_6 g24_6 g25_6 g26_6 g27_6 g28_6
          refine then_n ?_
          refine wp_ret ?_
          refine ret_1 Try.results10 hd10 g2_10 ?_
          have hg := hc1
          rw [hz2_10, hz2_4] at hg
          exact ⟨by unfold greatV; rw [hg, ← hp, List.drop_of_length_le (by omega)]; rfl, hM10.tail.tail⟩
    ·
     refine cond_t (g23_3.trans (by rw [hc1])) ?_
     refine wp_seq ?_
     refine region_seq 39 (fun zz e => (#[.bool true] : Array Value).getD zz undef) (fun k e w => Mem (List.getD [boxC b2_0 #[.string r.cmd.name, .slice al r.cmd.legs.length cl, .int .i64 r.cmd.fare, .slice at1 r.cmd.taxes.length ct, .int .i64 r.cmd.penalty] :: boxC b1_0 (recCells r (.slice al r.cmd.legs.length cl) (.slice at1 r.cmd.taxes.length ct)) :: R] k []) w) (fun _ => (0, undef)) [] [0] (fun _ _ => false) hz3 (by kernel_rfl) (by kernel_rfl) (by kernel_rfl) ?_ (show Mem _ _ from hM3) ?_ ?_
     · exact ⟨fun _ _ _ => rfl, trivial⟩
     ·
      refine ⟨?_, trivial⟩
      · exact op2 (a := 0) rfl fun e w ρ (hM : Mem _ w) E => res_ok (x_assign rfl (E.c _)) (goes_still rfl rfl hM)
     ·
      intro e a11 w11 hz11 hd hG hO hM
      have hd11 := hd.trans hd3
      have g2_11 : a11.tmps[2]? = some (.bool true) := hG 0 _ 2 rfl rfl
      have g3_11 := (hO 3 rfl).trans g3_3
      have hM11 : Mem (boxC b2_0 #[.string r.cmd.name, .slice al r.cmd.legs.length cl, .int .i64 r.cmd.fare, .slice at1 r.cmd.taxes.length ct, .int .i64 r.cmd.penalty] :: boxC b1_0 (recCells r (.slice al r.cmd.legs.length cl) (.slice at1 r.cmd.taxes.length ct)) :: R) w11 := hM
      clear hM hG hO hd
      clear hz3 hd3 hM3 g2_3 g3_3 g23_3
      refine then_n ?_
      refine wp_ret ?_
      refine then_r ?_
      refine ret_1 Try.results10 hd11 g2_11 ?_
      have hg := hc1
      rw [hz2_10, hz2_4] at hg
      exact ⟨by unfold greatV; rw [hg, Bool.true_or], hM11.tail.tail⟩
end Go.Proofs.Ytfcjmpgbohgoeaa
