/- CODEC: texts, taxes, commands, messages. -/
import Derived.Test.YtfcjmpgbohgoeaaCo7
namespace Go.Proofs.Ytfcjmpgbohgoeaa
open Go.RowKit Go.Lib Go.Tk Go.Shelf Go.Vc
set_option linter.unusedVariables false
set_option linter.unusedSimpArgs false
attribute [-go_sem] loadCellsFrom
theorem cellsL_byte (l : List Int) : cellsL byteE l = l.map (Value.int .u8) := by
 induction l with
 | nil => rfl
 | cons a l ih => simpa [cellsL, byteE] using ih
set_option maxRecDepth 100000 in
set_option maxHeartbeats 4000000 in
theorem text_at (m : Md) (pw : Nat) (σ : WS) (q : Option TypeId) (b off : Nat) (vs : Array Value) (s : ByteArray) (R : List Chunk) (w : World) (hM : Mem (walkC m pw σ :: boxE q b vs :: R) w) (hs : Seg vs off [.string s]) (hsz : s.size ≤ 1000000) (hok : TextOk m σ s) (hb : σ.bs.length ≤ 990000) :
  Calls Try.prog 56 #[.pointer (some ⟨pw, 0, none⟩), .pointer (some ⟨b, off, none⟩)] w fun e w' => e = .returned (.tuple #[]) ∧ Mem (walkC m pw (textF m σ s).2 :: boxE q b (over vs off [.string (textF m σ s).1]) :: R) w' := by
 refine enter Try.func56 rfl Try.ntmps56 (Nat.le_of_ble_eq_true rfl) ?_
 intro a0 hz0 hd0 hg0
 have g0_0 : a0.tmps[0]? = some (.pointer (some ⟨pw, 0, none⟩)) := hg0 0 _ rfl
 have g1_0 : a0.tmps[1]? = some (.pointer (some ⟨b, off, none⟩)) := hg0 1 _ rfl
 clear hg0
 have hM0 : Mem (walkC m pw σ :: boxE q b vs :: R) _ := hM
 refine wp_seq ?_
 refine region_seq 16 (fun zz e => (#[.pointer (some ⟨(e 0).1, 0, none⟩)] : Array Value).getD zz undef) (fun k e w => Mem (List.getD [walkC m pw σ :: boxE q b vs :: R, boxC ((e 0).1) #[.pointer (some ⟨pw, 0, none⟩)] :: walkC m pw σ :: boxE q b vs :: R] k []) w) (fun _ => (0, undef)) [0] [0] (fun _ _ => false) hz0 (by kernel_rfl) (by kernel_rfl) (by kernel_rfl) ?_ (show Mem _ _ from hM0) ?_ ?_
 · exact ⟨fun e e' h => congrArg (fun x : Rv => (.pointer (some ⟨x.1, 0, none⟩) : Value)) (h 0 (by decide)), trivial⟩
 ·
  refine ⟨?_, trivial⟩
  ·
   refine op2 (a := 0) rfl fun e w ρ (hM : Mem _ w) E => ?_
   have e0 : ρ (.tmp 0) = .pointer (some ⟨pw, 0, none⟩) := E.o 0 _ rfl g0_0
   exact res_ok (x_box rfl (e0)) (goes_tick rfl (w.heap.size, undef) rfl (hM.alloc _ _))
 ·
  intro e a1 w1 hz1 hd hG hO hM
  have hd1 := hd.trans hd0
  have g1_1 := (hO 1 rfl).trans g1_0
  have g2_1 : a1.tmps[2]? = some (.pointer (some ⟨(e 0).1, 0, none⟩)) := hG 0 _ 2 rfl rfl
  have hM1 : Mem (boxC ((e 0).1) #[.pointer (some ⟨pw, 0, none⟩)] :: walkC m pw σ :: boxE q b vs :: R) w1 := hM
  clear hM hG hO hd
  clear hz0 hd0 hM0 g0_0 g1_0
  generalize (e 0).1 = b1_0 at *
  refine then_n ?_
  refine wp_seq ?_
  refine region_seq 16 (fun zz e => (#[.pointer (some ⟨b, off, none⟩), .pointer (some ⟨b, off, none⟩), .string s, (e 0).2, .pointer (some ⟨(e 1).1, 0, none⟩), undef] : Array Value).getD zz undef) (fun k e w => Mem (List.getD [boxC b1_0 #[.pointer (some ⟨pw, 0, none⟩)] :: walkC m pw σ :: boxE q b vs :: R, rowC 5 1 (e 0).2 s.size (cellsL byteE (bytesOf s)) :: boxC b1_0 #[.pointer (some ⟨pw, 0, none⟩)] :: walkC m pw σ :: boxE q b vs :: R, boxC ((e 1).1) #[.slice none 0 0] :: rowC 5 1 (e 0).2 s.size (cellsL byteE (bytesOf s)) :: boxC b1_0 #[.pointer (some ⟨pw, 0, none⟩)] :: walkC m pw σ :: boxE q b vs :: R, boxC ((e 1).1) #[(e 0).2] :: rowC 5 1 (e 0).2 s.size (cellsL byteE (bytesOf s)) :: boxC b1_0 #[.pointer (some ⟨pw, 0, none⟩)] :: walkC m pw σ :: boxE q b vs :: R] k []) w) (fun _ => (0, undef)) [3, 4, 5] [0, 0, 0, 0, 1, 2] (fun _ _ => false) hz1 (by kernel_rfl) (by kernel_rfl) (by kernel_rfl) ?_ (show Mem _ _ from hM1) ?_ ?_
  · exact ⟨fun _ _ _ => rfl, fun _ _ _ => rfl, fun _ _ _ => rfl, fun e e' h => congrArg (fun x : Rv => (x.2 : Value)) (h 0 (by decide)), fun e e' h => congrArg (fun x : Rv => (.pointer (some ⟨x.1, 0, none⟩) : Value)) (h 1 (by decide)), fun _ _ _ => rfl, trivial⟩
  ·
   refine ⟨?_, ?_, ?_, ?_, ?_, ?_, trivial⟩
   · exact op2 (a := 0) rfl fun e w ρ (hM : Mem _ w) E => res_ok (x_move rfl (E.o 1 _ rfl g1_1)) (goes_still rfl rfl hM)
   · exact op2 (a := 0) rfl fun e w ρ (hM : Mem _ w) E => res_ok (x_nil rfl (E.d 0 _ 5 rfl rfl rfl)) (goes_still rfl rfl hM)
   ·
    refine op2 (a := 0) rfl fun e w ρ (hM : Mem _ w) E => ?_
    have e6 : ρ (.tmp 6) = .pointer (some ⟨b, off, none⟩) := E.d 1 _ 6 rfl rfl rfl
    exact res_ok (x_load rfl (e6) (by kernel_rfl) ((hM.box 2 rfl).cell _ (hs.one))) (goes_still rfl rfl hM)
   ·
    refine op2 (a := 0) rfl fun e w ρ (hM : Mem _ w) E => ?_
    have e7 : ρ (.tmp 7) = .string s := E.d 2 _ 7 rfl rfl rfl
    obtain ⟨v', w', hr, hm⟩ := hM.toBytes (P := Try.prog) s Try.underlying9 Try.underlying47 Try.underlying5 (by unfold maxLen; omega)
    rw [← cellsL_byte] at hm
    exact res_ok (x_convert rfl (e7) hr) (goes_tick rfl (0, v') rfl hm)
   ·
    refine op2 (a := 1) rfl fun e w ρ (hM : Mem _ w) E => ?_
    exact res_ok (x_alloc (z := .slice none 0 0) rfl (by kernel_rfl)) (goes_tick rfl (w.heap.size, undef) rfl (hM.alloc _ _))
   ·
    refine op2 (a := 2) rfl fun e w ρ (hM : Mem _ w) E => ?_
    have e4 := E.d 4 _ 4 rfl rfl rfl
    have e8 := E.d 3 _ 8 rfl rfl rfl
    have hrc := row_cell (hM.owns 1 rfl)
    obtain ⟨w', hr, hm⟩ := Mem.store (P := Try.prog) hM 0 rfl 47 0 ((e 0).2) [(e 0).2] hrc.1 (by kernel_rfl) (Nat.le_of_ble_eq_true rfl) (by simp [hrc.2])
    exact res_st (x_store rfl (e4) (e8) hr) (goes_tick rfl (0, undef) rfl hm)
  ·
   intro e a2 w2 hz2 hd hG hO hM
   have hd2 := hd.trans hd1
   have g1_2 := (hO 1 rfl).trans g1_1
   have g2_2 := (hO 2 rfl).trans g2_1
   have g4_2 : a2.tmps[4]? = some (.pointer (some ⟨(e 1).1, 0, none⟩)) := hG 4 _ 4 rfl rfl
   have hM2 : Mem (boxC ((e 1).1) #[(e 0).2] :: rowC 5 1 (e 0).2 s.size (cellsL byteE (bytesOf s)) :: boxC b1_0 #[.pointer (some ⟨pw, 0, none⟩)] :: walkC m pw σ :: boxE q b vs :: R) w2 := hM
   clear hM hG hO hd
   clear hz1 hd1 hM1 g1_1 g2_1
   generalize (e 1).1 = b2_1 at *
   generalize (e 0).2 = v2_0 at *
   refine then_n ?_
   refine wp_seq ?_
   refine region_seq 16 (fun zz e => (#[.pointer (some ⟨pw, 0, none⟩), .func (.func 65) #[] #[.pointer (some ⟨b1_0, 0, none⟩)], .tuple #[]] : Array Value).getD zz undef) (fun k e w => Mem (List.getD [boxC b2_1 #[v2_0] :: rowC 5 1 v2_0 s.size (cellsL byteE (bytesOf s)) :: boxC b1_0 #[.pointer (some ⟨pw, 0, none⟩)] :: walkC m pw σ :: boxE q b vs :: R, walkC m pw (listF (byteF m) 0 m σ (bytesOf s) 32).2 :: boxC b1_0 #[.pointer (some ⟨pw, 0, none⟩)] :: boxC b2_1 #[(e 0).2] :: rowC 5 1 (e 0).2 (listF (byteF m) 0 m σ (bytesOf s) 32).1.length (cellsL byteE (listF (byteF m) 0 m σ (bytesOf s) 32).1) :: boxE q b vs :: R] k []) w) (fun _ => (0, undef)) [2] [0, 0, 0] (fun _ _ => false) hz2 (by kernel_rfl) (by kernel_rfl) (by kernel_rfl) ?_ (show Mem _ _ from hM2) ?_ ?_
   · exact ⟨fun _ _ _ => rfl, fun _ _ _ => rfl, fun _ _ _ => rfl, trivial⟩
   ·
    refine ⟨?_, ?_, ?_, trivial⟩
    · exact op2 (a := 0) rfl fun e w ρ (hM : Mem _ w) E => res_ok (x_load rfl (E.o 2 _ rfl g2_2) (by kernel_rfl) ((hM.box 2 rfl).cell 0 rfl)) (goes_still rfl rfl hM)
    ·
     refine op2 (a := 0) rfl fun e w ρ (hM : Mem _ w) E => ?_
     have e2 : ρ (.tmp 2) = .pointer (some ⟨b1_0, 0, none⟩) := E.o 2 _ rfl g2_2
     exact res_ok (x_makeFunc (vs := #[]) (us := #[.pointer (some ⟨b1_0, 0, none⟩)]) rfl (by simp) (by simp [e2])) (goes_still rfl rfl hM)
    ·
     refine op2 (a := 0) rfl fun e w ρ (hM : Mem _ w) E => ?_
     have e4 : ρ (.tmp 4) = .pointer (some ⟨b2_1, 0, none⟩) := E.o 4 _ rfl g4_2
     have e9 : ρ (.tmp 9) = .pointer (some ⟨pw, 0, none⟩) := E.d 0 _ 9 rfl rfl rfl
     have e10 : ρ (.tmp 10) = .func (.func 65) #[] #[.pointer (some ⟨b1_0, 0, none⟩)] := E.d 1 _ 10 rfl rfl rfl
     refine res_in (x_call (args := #[.pointer (some ⟨pw, 0, none⟩), .pointer (some ⟨b2_1, 0, none⟩), .int .i64 32, .func (.func 65) #[] #[.pointer (some ⟨b1_0, 0, none⟩)]]) rfl rfl (E.f _) (by simp [e10, e4, e9, E.c]) (by kernel_rfl)) ?_
     refine (list_byte m pw b1_0 σ none b2_1 0 #[v2_0] v2_0 (bytesOf s) s.size 32 _ _ ((((hM.front 1 rfl).front 1 rfl).front 2 rfl).front 3 rfl) rfl (bytesOf_len s) hsz (by decide) hok hb).mono ?_
     rintro e' w' ⟨v', rfl, hm, -⟩
     exact ⟨_, rfl, goes_tick rfl (0, v') rfl hm⟩
   ·
    intro e a3 w3 hz3 hd hG hO hM
    have hd3 := hd.trans hd2
    have g1_3 := (hO 1 rfl).trans g1_2
    have g4_3 := (hO 4 rfl).trans g4_2
    have hM3 : Mem (walkC m pw (listF (byteF m) 0 m σ (bytesOf s) 32).2 :: boxC b1_0 #[.pointer (some ⟨pw, 0, none⟩)] :: boxC b2_1 #[(e 0).2] :: rowC 5 1 (e 0).2 (listF (byteF m) 0 m σ (bytesOf s) 32).1.length (cellsL byteE (listF (byteF m) 0 m σ (bytesOf s) 32).1) :: boxE q b vs :: R) w3 := hM
    clear hM hG hO hd
    clear hz2 hd2 hM2 g1_2 g2_2 g4_2
    generalize (e 0).2 = v3_0 at *
    refine then_n ?_
    refine region_seq 16 (fun zz e => (#[.pointer (some ⟨b, off, none⟩), v3_0, .string ((textF m σ s).1), .pointer (some ⟨b, off, none⟩), undef] : Array Value).getD zz undef) (fun k e w => Mem (List.getD [walkC m pw (listF (byteF m) 0 m σ (bytesOf s) 32).2 :: boxC b1_0 #[.pointer (some ⟨pw, 0, none⟩)] :: boxC b2_1 #[v3_0] :: rowC 5 1 v3_0 (listF (byteF m) 0 m σ (bytesOf s) 32).1.length (cellsL byteE (listF (byteF m) 0 m σ (bytesOf s) 32).1) :: boxE q b vs :: R, walkC m pw (listF (byteF m) 0 m σ (bytesOf s) 32).2 :: boxC b1_0 #[.pointer (some ⟨pw, 0, none⟩)] :: boxC b2_1 #[v3_0] :: rowC 5 1 v3_0 (listF (byteF m) 0 m σ (bytesOf s) 32).1.length (cellsL byteE (listF (byteF m) 0 m σ (bytesOf s) 32).1) :: boxE q b (over vs off [.string (textF m σ s).1]) :: R] k []) w) (fun _ => (0, undef)) [4] [0, 0, 0, 0, 0] (fun _ _ => false) hz3 (by kernel_rfl) (by kernel_rfl) (by kernel_rfl) ?_ (show Mem _ _ from hM3) ?_ ?_
    · exact ⟨fun _ _ _ => rfl, fun _ _ _ => rfl, fun _ _ _ => rfl, fun _ _ _ => rfl, fun _ _ _ => rfl, trivial⟩
    ·
     refine ⟨?_, ?_, ?_, ?_, ?_, trivial⟩
     · exact op2 (a := 0) rfl fun e w ρ (hM : Mem _ w) E => res_ok (x_move rfl (E.o 1 _ rfl g1_3)) (goes_still rfl rfl hM)
     · exact op2 (a := 0) rfl fun e w ρ (hM : Mem _ w) E => res_ok (x_load rfl (E.o 4 _ rfl g4_3) (by kernel_rfl) ((hM.box 2 rfl).cell 0 rfl)) (goes_still rfl rfl hM)
     ·
      refine op2 (a := 0) rfl fun e w ρ (hM : Mem _ w) E => ?_
      have e13 : ρ (.tmp 13) = v3_0 := E.d 1 _ 13 rfl rfl rfl
      obtain ⟨a', c', hv, hrw, -⟩ := (hM.owns 3 rfl).row
      rw [cellsL_byte] at hrw
      exact res_ok (x_convert rfl (e13.trans hv) (run_ofBytes (xs := (listF (byteF m) 0 m σ (bytesOf s) 32).1) Try.underlying47 Try.underlying5 Try.underlying9 rfl hrw)) (goes_still rfl rfl hM)
     · exact op2 (a := 0) rfl fun e w ρ (hM : Mem _ w) E => res_ok (x_nil rfl (E.d 0 _ 12 rfl rfl rfl)) (goes_still rfl rfl hM)
     ·
      refine op2 (a := 0) rfl fun e w ρ (hM : Mem _ w) E => ?_
      have e14 : ρ (.tmp 14) = .string ((textF m σ s).1) := E.d 2 _ 14 rfl rfl rfl
      have e15 : ρ (.tmp 15) = .pointer (some ⟨b, off, none⟩) := E.d 3 _ 15 rfl rfl rfl
      obtain ⟨w', hr, hm⟩ := Mem.store (P := Try.prog) hM 4 rfl 9 (off) (.string ((textF m σ s).1)) [.string ((textF m σ s).1)] rfl (by kernel_rfl) (hs.1) rfl
      exact res_st (x_store rfl (e15) (e14) hr) (goes_tick rfl (0, undef) rfl hm)
    ·
     intro e a4 w4 hz4 hd hG hO hM
     have hd4 := hd.trans hd3
     have hM4 : Mem (walkC m pw (listF (byteF m) 0 m σ (bytesOf s) 32).2 :: boxC b1_0 #[.pointer (some ⟨pw, 0, none⟩)] :: boxC b2_1 #[v3_0] :: rowC 5 1 v3_0 (listF (byteF m) 0 m σ (bytesOf s) 32).1.length (cellsL byteE (listF (byteF m) 0 m σ (bytesOf s) 32).1) :: boxE q b (over vs off [.string (textF m σ s).1]) :: R) w4 := hM
     clear hM hG hO hd
     clear hz3 hd3 hM3 g1_3 g4_3
     refine end_r ?_
     refine ret_0 Try.results56 hd4 ?_
     exact ⟨rfl, (((((hM4.erase 3 rfl).erase 2 rfl).erase 1 rfl).front 1 rfl).front 1 rfl)⟩
set_option maxRecDepth 100000 in
set_option maxHeartbeats 2000000 in
theorem tax_at (m : Md) (pw : Nat) (σ : WS) (q : Option TypeId) (b off : Nat) (vs : Array Value) (l : TaxV) (R : List Chunk) (w : World) (hM : Mem (walkC m pw σ :: boxE q b vs :: R) w) (hs : Seg vs off (taxE l)) (hb : σ.bs.length ≤ 980000) (hsz : l.code.size ≤ 1000000) (hok : TextOk m σ l.code) :
  Calls Try.prog 60 #[.pointer (some ⟨pw, 0, none⟩), .pointer (some ⟨b, off, none⟩)] w fun e w' => e = .returned (.tuple #[]) ∧ Mem (walkC m pw (taxF m σ l).2 :: boxE q b (over vs off (taxE (taxF m σ l).1)) :: R) w' := by
 have hM0 : Mem (walkC m pw σ :: boxE q b (over vs off []) :: R) w := by rw [over_nil]; exact hM
 refine enter Try.func60 rfl Try.ntmps60 (Nat.le_of_ble_eq_true rfl) ?_
 intro a0 hz0 hd0 hg0
 have g0_0 : a0.tmps[0]? = some (.pointer (some ⟨pw, 0, none⟩)) := hg0 0 _ rfl
 have g1_0 : a0.tmps[1]? = some (.pointer (some ⟨b, off, none⟩)) := hg0 1 _ rfl
 clear hg0
 have hM0 : Mem (walkC m pw σ :: boxE q b (over vs off []) :: R) _ := hM0
 refine wp_seq ?_
 refine region_seq 14 (fun zz e => (#[.pointer (some ⟨pw, 0, none⟩), .pointer (some ⟨b, off, none⟩), .pointer (some ⟨b, off, none⟩), .pointer (some ⟨b, off, none⟩), .tuple #[]] : Array Value).getD zz undef) (fun k e w => Mem (List.getD [walkC m pw σ :: boxE q b (over vs off []) :: R, walkC m pw ((textF m σ l.code).2) :: boxE q b (over vs off [.string (textF m σ l.code).1]) :: R] k []) w) (fun _ => (0, undef)) [4] [0, 0, 0, 0, 0] (fun _ _ => false) hz0 (by kernel_rfl) (by kernel_rfl) (by kernel_rfl) ?_ (show Mem _ _ from hM0) ?_ ?_
 · exact ⟨fun _ _ _ => rfl, fun _ _ _ => rfl, fun _ _ _ => rfl, fun _ _ _ => rfl, fun _ _ _ => rfl, trivial⟩
 ·
  refine ⟨?_, ?_, ?_, ?_, ?_, trivial⟩
  · exact op2 (a := 0) rfl fun e w ρ (hM : Mem _ w) E => res_ok (x_move rfl (E.o 0 _ rfl g0_0)) (goes_still rfl rfl hM)
  · exact op2 (a := 0) rfl fun e w ρ (hM : Mem _ w) E => res_ok (x_move rfl (E.o 1 _ rfl g1_0)) (goes_still rfl rfl hM)
  · exact op2 (a := 0) rfl fun e w ρ (hM : Mem _ w) E => res_ok (x_nil rfl (E.d 1 _ 5 rfl rfl rfl)) (goes_still rfl rfl hM)
  · exact op2 (a := 0) rfl fun e w ρ (hM : Mem _ w) E => res_ok (x_fieldAddr (off := 0) rfl (E.d 2 _ 6 rfl rfl rfl) (by kernel_rfl) rfl) (goes_still rfl rfl hM)
  ·
   refine op2 (a := 0) rfl fun e w ρ (hM : Mem _ w) E => ?_
   have e4 : ρ (.tmp 4) = .pointer (some ⟨pw, 0, none⟩) := E.d 0 _ 4 rfl rfl rfl
   have e7 : ρ (.tmp 7) = .pointer (some ⟨b, off, none⟩) := E.d 3 _ 7 rfl rfl rfl
   refine res_in (x_call (args := #[.pointer (some ⟨pw, 0, none⟩), .pointer (some ⟨b, off, none⟩)]) rfl rfl (E.f _) (by simp [e4, e7]) (by kernel_rfl)) ?_
   refine (text_at m pw σ q b off (over vs off []) l.code _ _ ((hM.front 1 rfl).front 1 rfl) (hs.behind (l := []) 1 (Nat.le_of_ble_eq_true rfl)) hsz hok (by omega)).mono ?_
   rintro e' w' ⟨rfl, hm⟩
   have hm : Mem (walkC m pw ((textF m σ l.code).2) :: boxE q b (over vs off [.string (textF m σ l.code).1]) :: R) w' := by rw [show over vs off [.string (textF m σ l.code).1] = over (over vs off []) off [.string (textF m σ l.code).1] from (over_over (l := []) (l' := [.string (textF m σ l.code).1]) (by have := hs.1; simp only [List.length_cons, List.length_nil] at this ⊢; simp [taxE] at this; omega)).symm]; exact hm
   exact ⟨_, rfl, goes_tick rfl (0, undef) rfl hm⟩
 ·
  intro e a1 w1 hz1 hd hG hO hM
  have hd1 := hd.trans hd0
  have g0_1 := (hO 0 rfl).trans g0_0
  have g1_1 := (hO 1 rfl).trans g1_0
  have hM1 : Mem (walkC m pw ((textF m σ l.code).2) :: boxE q b (over vs off [.string (textF m σ l.code).1]) :: R) w1 := hM
  clear hM hG hO hd
  clear hz0 hd0 hM0 g0_0 g1_0
  refine then_n ?_
  refine region_seq 14 (fun zz e => (#[.pointer (some ⟨pw, 0, none⟩), .pointer (some ⟨b, off, none⟩), .pointer (some ⟨b, off, none⟩), .pointer (some ⟨b, off + 1, none⟩), .tuple #[]] : Array Value).getD zz undef) (fun k e w => Mem (List.getD [walkC m pw ((textF m σ l.code).2) :: boxE q b (over vs off [.string (textF m σ l.code).1]) :: R, walkC m pw ((fld .i64 m (textF m σ l.code).2 l.amt 8).2) :: boxE q b (over vs off [.string (textF m σ l.code).1, .int .i64 (fld .i64 m (textF m σ l.code).2 l.amt 8).1]) :: R] k []) w) (fun _ => (0, undef)) [4] [0, 0, 0, 0, 0] (fun _ _ => false) hz1 (by kernel_rfl) (by kernel_rfl) (by kernel_rfl) ?_ (show Mem _ _ from hM1) ?_ ?_
  · exact ⟨fun _ _ _ => rfl, fun _ _ _ => rfl, fun _ _ _ => rfl, fun _ _ _ => rfl, fun _ _ _ => rfl, trivial⟩
  ·
   refine ⟨?_, ?_, ?_, ?_, ?_, trivial⟩
   · exact op2 (a := 0) rfl fun e w ρ (hM : Mem _ w) E => res_ok (x_move rfl (E.o 0 _ rfl g0_1)) (goes_still rfl rfl hM)
   · exact op2 (a := 0) rfl fun e w ρ (hM : Mem _ w) E => res_ok (x_move rfl (E.o 1 _ rfl g1_1)) (goes_still rfl rfl hM)
   · exact op2 (a := 0) rfl fun e w ρ (hM : Mem _ w) E => res_ok (x_nil rfl (E.d 1 _ 10 rfl rfl rfl)) (goes_still rfl rfl hM)
   · exact op2 (a := 0) rfl fun e w ρ (hM : Mem _ w) E => res_ok (x_fieldAddr (off := 1) rfl (E.d 2 _ 11 rfl rfl rfl) (by kernel_rfl) rfl) (goes_still rfl rfl hM)
   ·
    refine op2 (a := 0) rfl fun e w ρ (hM : Mem _ w) E => ?_
    have e9 : ρ (.tmp 9) = .pointer (some ⟨pw, 0, none⟩) := E.d 0 _ 9 rfl rfl rfl
    have e12 : ρ (.tmp 12) = .pointer (some ⟨b, off + 1, none⟩) := E.d 3 _ 12 rfl rfl rfl
    refine res_in (x_call (args := #[.pointer (some ⟨pw, 0, none⟩), .pointer (some ⟨b, off + 1, none⟩), .int .i64 8]) rfl rfl (E.f _) (by simp [e12, e9, E.c]) (by kernel_rfl)) ?_
    refine (seg_int64 m pw ((textF m σ l.code).2) q b (off + 1) (over vs off [.string (textF m σ l.code).1]) l.amt 8 _ _ ((hM.front 1 rfl).front 1 rfl) (hs.behind (l := [.string (textF m σ l.code).1]) 1 (Nat.le_of_ble_eq_true rfl)) (by decide) (by have := textF_len m σ l.code hok; omega)).mono ?_
    rintro e' w' ⟨rfl, hm⟩
    have hm : Mem (walkC m pw ((fld .i64 m (textF m σ l.code).2 l.amt 8).2) :: boxE q b (over vs off [.string (textF m σ l.code).1, .int .i64 (fld .i64 m (textF m σ l.code).2 l.amt 8).1]) :: R) w' := by rw [show over vs off [.string (textF m σ l.code).1, .int .i64 (fld .i64 m (textF m σ l.code).2 l.amt 8).1] = over (over vs off [.string (textF m σ l.code).1]) (off + 1) [.int .i64 (fld .i64 m (textF m σ l.code).2 l.amt 8).1] from (over_over (l := [.string (textF m σ l.code).1]) (l' := [.int .i64 (fld .i64 m (textF m σ l.code).2 l.amt 8).1]) (by have := hs.1; simp only [List.length_cons, List.length_nil] at this ⊢; simp [taxE] at this; omega)).symm]; exact hm
    exact ⟨_, rfl, goes_tick rfl (0, undef) rfl hm⟩
  ·
   intro e a2 w2 hz2 hd hG hO hM
   have hd2 := hd.trans hd1
   have hM2 : Mem (walkC m pw ((fld .i64 m (textF m σ l.code).2 l.amt 8).2) :: boxE q b (over vs off [.string (textF m σ l.code).1, .int .i64 (fld .i64 m (textF m σ l.code).2 l.amt 8).1]) :: R) w2 := hM
   clear hM hG hO hd
   clear hz1 hd1 hM1 g0_1 g1_1
   refine end_r ?_
   refine ret_0 Try.results60 hd2 ?_
   exact ⟨rfl, hM2⟩
theorem textOk_nil (m : Md) (σ : WS) : TextOk m σ ByteArray.empty := Nat.zero_le _
theorem listN_lay (σ : WS) (L most : Nat) (h : L ≤ most) : (listN .lay σ L most).1 = L := by
 unfold listN
 rw [if_neg (show ¬ (num .lay σ L 1).1 > (most : Int) from by show ¬ (L : Int) > most; omega)]
 exact Int.toNat_natCast L
theorem textOk_lay (σ : WS) (s : ByteArray) (h : s.size ≤ 32) : TextOk .lay σ s := by
 unfold TextOk; rw [listN_lay _ _ _ h]; exact Nat.le_refl _
def LoT (m : Md) (s : ByteArray) : Prop := match m with
 | .lay => s.size ≤ 32
 | .take _ => s = ByteArray.empty
theorem LoT.ok {m : Md} {s : ByteArray} (h : LoT m s) (σ : WS) : TextOk m σ s ∧ s.size ≤ 1000000 := by
 cases m with
 | lay => exact ⟨textOk_lay σ s h, Nat.le_trans h (by decide)⟩
 | take D => have h : s = ByteArray.empty := h; subst h; exact ⟨textOk_nil _ σ, by decide⟩
def LoN (m : Md) (n : Nat) : Prop := match m with
 | .lay => n ≤ 4
 | .take _ => n = 0
theorem LoN.ok {m : Md} {n : Nat} (h : LoN m n) (σ : WS) : n ≤ (listN m σ n 4).1 := by
 cases m with
 | lay => rw [listN_lay _ _ _ h]; exact Nat.le_refl _
 | take D => have h : n = 0 := h; subst h; exact Nat.zero_le _
theorem LoN.le {m : Md} {n : Nat} (h : LoN m n) : n ≤ 4 := by
 cases m with
 | lay => exact h
 | take D => have h : n = 0 := h; omega
theorem LoT.nil (m : Md) : LoT m ByteArray.empty := by
 cases m with
 | lay => exact Nat.zero_le _
 | take D => rfl
set_option maxRecDepth 100000 in
set_option maxHeartbeats 4000000 in
theorem list_Tax (m : Md) (pw : Nat) (σ : WS) (q : Option TypeId) (lb lo : Nat) (vs : Array Value) (v : Value) (xs : List TaxV) (L most : Nat) (R : List Chunk) (w : World) (hM : Mem (walkC m pw σ :: boxE q lb vs :: rowC 58 2 v L (cellsL taxE xs) :: R) w) (hl : vs[lo]? = some v) (hxL : xs.length = L) (hL : L ≤ 1000000) (hm : most ≤ 32) (hc : L ≤ (listN m σ L most).1) (hb : σ.bs.length ≤ 970000) (hok : ∀ x ∈ xs, LoT m x.code) :
  Calls Try.prog 59 #[.pointer (some ⟨pw, 0, none⟩), .pointer (some ⟨lb, lo, none⟩), .int .i64 most, .func (.func 60) #[.pointer (some ⟨pw, 0, none⟩)] #[]] w fun e w' => ∃ v', e = .returned (.tuple #[]) ∧ Mem (walkC m pw (listF (taxF m) (⟨ByteArray.empty, 0⟩ : TaxV) m σ xs most).2 :: boxE q lb (over vs lo [v']) :: rowC 58 2 v' (listF (taxF m) (⟨ByteArray.empty, 0⟩ : TaxV) m σ xs most).1.length (cellsL taxE (listF (taxF m) (⟨ByteArray.empty, 0⟩ : TaxV) m σ xs most).1) :: R) w' ∧ ((listF (taxF m) (⟨ByteArray.empty, 0⟩ : TaxV) m σ xs most).1 = [] → v' = .slice none 0 0) := by
 have hlo : lo + 1 ≤ vs.size := (Array.getElem?_eq_some_iff.1 hl).1
 obtain ⟨a, c, rfl, hLc, hcm⟩ := row_slice hM 2 rfl
 subst hxL
 obtain ⟨L, hLx⟩ : ∃ L, L = xs.length := ⟨_, rfl⟩
 rw [← hLx] at hM hL hc hl hLc
 have hr1 := num1_range (v := (L : Int)) (show Mem (walkC m pw σ :: _) w from hM) (by omega)
 have hnl := num_len m σ (L : Int) 1
 refine enter Try.func59 rfl Try.ntmps59 (Nat.le_of_ble_eq_true rfl) ?_
 intro a0 hz0 hd0 hg0
 have g0_0 : a0.tmps[0]? = some (.pointer (some ⟨pw, 0, none⟩)) := hg0 0 _ rfl
 have g1_0 : a0.tmps[1]? = some (.pointer (some ⟨lb, lo, none⟩)) := hg0 1 _ rfl
 have g2_0 : a0.tmps[2]? = some (.int .i64 (most : Int)) := hg0 2 _ rfl
 have g3_0 : a0.tmps[3]? = some (.func (.func 60) #[.pointer (some ⟨pw, 0, none⟩)] #[]) := hg0 3 _ rfl
 clear hg0
 have hM0 : Mem (walkC m pw σ :: boxE q lb vs :: rowC 58 2 (.slice a L c) L (cellsL taxE xs) :: R) _ := hM
 refine wp_seq ?_
 obtain ⟨v2, hM0⟩ := walk_open hM0
 replace hM0 : Mem (boxC pw #[v2, .func (.func (nf m)) #[.pointer (some ⟨pw, 0, none⟩)] #[], .bool σ.bad] :: tailC m v2 σ.bs :: boxE q lb vs :: rowC 58 2 (.slice a L c) L (cellsL taxE xs) :: R) w := hM0
 refine region_draw 70 (fun zz e => (#[.pointer (some ⟨pw, 0, none⟩), .pointer (some ⟨pw, 0, none⟩), .pointer (some ⟨pw, 1, none⟩), .func (.func (nf m)) #[.pointer (some ⟨pw, 0, none⟩)] #[], .pointer (some ⟨lb, lo, none⟩), .pointer (some ⟨lb, lo, none⟩), .slice a L c, .int .i64 (L : Int), .int .u64 (L : Int), .int .u64 ((num m σ (L : Int) 1).1), .int .i64 ((num m σ (L : Int) 1).1), .int .i64 ((num m σ (L : Int) 1).1)] : Array Value).getD zz undef) (fun k e w => Mem (List.getD [boxC pw #[v2, .func (.func (nf m)) #[.pointer (some ⟨pw, 0, none⟩)] #[], .bool σ.bad] :: tailC m v2 σ.bs :: boxE q lb vs :: rowC 58 2 (.slice a L c) L (cellsL taxE xs) :: R, walkC m pw (num m σ (L : Int) 1).2 :: boxE q lb vs :: rowC 58 2 (.slice a L c) L (cellsL taxE xs) :: R] k []) w) (fun _ => (0, undef)) [9] [[], [0], [0, 1], [0, 1, 2], [], [4], [4, 5], [4, 5, 6], [4, 5, 6, 7], [0, 1, 2, 3, 4, 5, 6, 7, 8], [0, 1, 2, 3, 4, 5, 6, 7, 8, 9], [0, 1, 2, 3, 4, 5, 6, 7, 8, 9, 10]] [0, 0, 0, 0, 0, 0, 0, 0, 0, 0, 1, 1] [0, 0, 0, 0, 0, 0, 0, 0, 0, 0, 1, 1] (fun _ _ => false) hz0 (by kernel_rfl) (by kernel_rfl) (by kernel_rfl) (by kernel_rfl) (by kernel_rfl) ?_ (show Mem _ _ from hM0.drew) ?_ ?_
 · exact ⟨fun _ _ _ => rfl, fun _ _ _ => rfl, fun _ _ _ => rfl, fun _ _ _ => rfl, fun _ _ _ => rfl, fun _ _ _ => rfl, fun _ _ _ => rfl, fun _ _ _ => rfl, fun _ _ _ => rfl, fun _ _ _ => rfl, fun _ _ _ => rfl, fun _ _ _ => rfl, trivial⟩
 ·
  refine ⟨?_, ?_, ?_, ?_, ?_, ?_, ?_, ?_, ?_, ?_, ?_, ?_, trivial⟩
  · exact op2 (a := 0) rfl fun e w ρ (hM : Mem _ w) E => res_ok (x_move rfl (E.o 0 _ rfl g0_0)) (goes_still rfl rfl hM)
  · exact op2 (a := 0) rfl fun e w ρ (hM : Mem _ w) E => res_ok (x_nil rfl (E.d 0 _ 10 rfl rfl rfl)) (goes_still rfl rfl hM)
  · exact op2 (a := 0) rfl fun e w ρ (hM : Mem _ w) E => res_ok (x_fieldAddr (off := 1) rfl (E.d 1 _ 11 rfl rfl rfl) (by kernel_rfl) rfl) (goes_still rfl rfl hM)
  · exact op2 (a := 0) rfl fun e w ρ (hM : Mem _ w) E => res_ok (x_load rfl (E.d 2 _ 12 rfl rfl rfl) (by kernel_rfl) ((hM.box 0 rfl).cell 1 rfl)) (goes_still rfl rfl hM)
  · exact op2 (a := 0) rfl fun e w ρ (hM : Mem _ w) E => res_ok (x_move rfl (E.o 1 _ rfl g1_0)) (goes_still rfl rfl hM)
  · exact op2 (a := 0) rfl fun e w ρ (hM : Mem _ w) E => res_ok (x_nil rfl (E.d 4 _ 14 rfl rfl rfl)) (goes_still rfl rfl hM)
  ·
   refine op2 (a := 0) rfl fun e w ρ (hM : Mem _ w) E => ?_
   have e15 : ρ (.tmp 15) = .pointer (some ⟨lb, lo, none⟩) := E.d 5 _ 15 rfl rfl rfl
   exact res_ok (x_load rfl (e15) (by kernel_rfl) ((hM.box 2 rfl).cell lo hl)) (goes_still rfl rfl hM)
  ·
   refine op2 (a := 0) rfl fun e w ρ (hM : Mem _ w) E => ?_
   have e16 : ρ (.tmp 16) = .slice a L c := E.d 6 _ 16 rfl rfl rfl
   exact res_ok (x_len (n := 2) rfl rfl rfl rfl (e16) (by kernel_rfl)) (goes_still rfl rfl hM)
  · exact op2 (a := 0) rfl fun e w ρ (hM : Mem _ w) E => res_ok (x_conv rfl (E.d 7 _ 17 rfl rfl rfl) (by kernel_rfl) (by kernel_rfl) (wr_u64 (by omega))) (goes_still rfl rfl hM)
  ·
   refine op2 (a := 0) rfl fun e w ρ (hM : Mem _ w) E => ?_
   have e13 : ρ (.tmp 13) = .func (.func (nf m)) #[.pointer (some ⟨pw, 0, none⟩)] #[] := E.d 3 _ 13 rfl rfl rfl
   have e18 : ρ (.tmp 18) = .int .u64 (L : Int) := E.d 8 _ 18 rfl rfl rfl
   refine res_in (x_call (args := #[.pointer (some ⟨pw, 0, none⟩), .int .u64 (L : Int), .int .i64 1]) rfl rfl (e13) (by simp [e18, E.c]) (nf_enters m)) ?_
   refine (num_at m pw σ (L : Int) 1 _ _ (walk_shut ((hM.front 1 rfl).front 1 rfl)) (by omega) (by decide) (by omega)).mono ?_
   rintro e' w' ⟨rfl, hm⟩
   exact ⟨_, rfl, goes_tick rfl (0, undef) rfl hm⟩
  · exact op2 (a := 1) rfl fun e w ρ (hM : Mem _ w) E => res_ok (x_conv rfl (E.d 9 _ 19 rfl rfl rfl) (by kernel_rfl) (by kernel_rfl) (wr_i64 (by omega))) (goes_still rfl rfl hM)
  · exact op2 (a := 1) rfl fun e w ρ (hM : Mem _ w) E => res_ok (x_assign rfl (E.d 10 _ 20 rfl rfl rfl)) (goes_still rfl rfl hM)
 ·
  intro e a1 w1 hz1 hd hG hO hM
  have hd1 := hd.trans hd0
  have g0_1 := (hO 0 rfl).trans g0_0
  have g1_1 := (hO 1 rfl).trans g1_0
  have g2_1 := (hO 2 rfl).trans g2_0
  have g3_1 := (hO 3 rfl).trans g3_0
  have g8_1 : a1.tmps[8]? = some (.int .i64 ((num m σ (L : Int) 1).1)) := hG 11 _ 8 rfl rfl
  have hM1 : Mem (walkC m pw (num m σ (L : Int) 1).2 :: boxE q lb vs :: rowC 58 2 (.slice a L c) L (cellsL taxE xs) :: R) w1 := hM
  clear hM hG hO hd
  clear hz0 hd0 hM0 g0_0 g1_0 g2_0 g3_0
  refine then_n ?_
  refine seq_cut (fun aa ww => ∃ xx : Nat × WS, (fun xx aa ww => (fun (n : Nat) (σ2 : WS) => aa.tmps.size = 70 ∧ aa.defers = [] ∧ aa.tmps[1]? = some (.pointer (some ⟨lb, lo, none⟩)) ∧ aa.tmps[3]? = some (.func (.func 60) #[.pointer (some ⟨pw, 0, none⟩)] #[]) ∧ aa.tmps[8]? = some (.int .i64 (n : Int)) ∧ Mem (walkC m pw σ2 :: boxE q lb vs :: rowC 58 2 (.slice a L c) L (cellsL taxE xs) :: R) ww ∧ listN m σ L most = (n, σ2)) xx.1 xx.2) xx aa ww) ?_ ?_
  ·
   refine wp_seq ?_
   refine region_seq 70 (fun zz e => (#[.int .i64 ((num m σ (L : Int) 1).1), .int .i64 (most : Int), .bool (decide (((num m σ (L : Int) 1).1) > (most : Int)))] : Array Value).getD zz undef) (fun k e w => Mem (List.getD [walkC m pw (num m σ (L : Int) 1).2 :: boxE q lb vs :: rowC 58 2 (.slice a L c) L (cellsL taxE xs) :: R] k []) w) (fun _ => (0, undef)) [] [0, 0, 0] (fun _ _ => false) hz1 (by kernel_rfl) (by kernel_rfl) (by kernel_rfl) ?_ (show Mem _ _ from hM1) ?_ ?_
   · exact ⟨fun _ _ _ => rfl, fun _ _ _ => rfl, fun _ _ _ => rfl, trivial⟩
   ·
    refine ⟨?_, ?_, ?_, trivial⟩
    · exact op2 (a := 0) rfl fun e w ρ (hM : Mem _ w) E => res_ok (x_move rfl (E.o 8 _ rfl g8_1)) (goes_still rfl rfl hM)
    · exact op2 (a := 0) rfl fun e w ρ (hM : Mem _ w) E => res_ok (x_move rfl (E.o 2 _ rfl g2_1)) (goes_still rfl rfl hM)
    · exact op2 (a := 0) rfl fun e w ρ (hM : Mem _ w) E => res_ok (x_gtr rfl (E.d 0 _ 21 rfl rfl rfl) (E.d 1 _ 22 rfl rfl rfl) rfl) (goes_still rfl rfl hM)
   ·
    intro e a2 w2 hz2 hd hG hO hM
    have hd2 := hd.trans hd1
    have g0_2 := (hO 0 rfl).trans g0_1
    have g1_2 := (hO 1 rfl).trans g1_1
    have g3_2 := (hO 3 rfl).trans g3_1
    have g8_2 := (hO 8 rfl).trans g8_1
    have g23_2 : a2.tmps[23]? = some (.bool (decide (((num m σ (L : Int) 1).1) > (most : Int)))) := hG 2 _ 23 rfl rfl
    have hM2 : Mem (walkC m pw (num m σ (L : Int) 1).2 :: boxE q lb vs :: rowC 58 2 (.slice a L c) L (cellsL taxE xs) :: R) w2 := hM
    clear hM hG hO hd
    clear hz1 hd1 hM1 g0_1 g1_1 g2_1 g3_1 g8_1
    refine then_n ?_
    by_cases hc1 : ((num m σ (L : Int) 1).1) > (most : Int)
    ·
     refine cond_t (g23_2.trans (by rw [decide_eq_true hc1])) ?_
     obtain ⟨v3, hM2⟩ := walk_open hM2
     replace hM2 : Mem (boxC pw #[v3, .func (.func (nf m)) #[.pointer (some ⟨pw, 0, none⟩)] #[], .bool ((num m σ (L : Int) 1).2.bad)] :: tailC m v3 (num m σ (L : Int) 1).2.bs :: boxE q lb vs :: rowC 58 2 (.slice a L c) L (cellsL taxE xs) :: R) w2 := hM2
     refine region_seq 70 (fun zz e => (#[.pointer (some ⟨pw, 0, none⟩), .pointer (some ⟨pw, 0, none⟩), .pointer (some ⟨pw, 2, none⟩), undef, .int .i64 0] : Array Value).getD zz undef) (fun k e w => Mem (List.getD [boxC pw #[v3, .func (.func (nf m)) #[.pointer (some ⟨pw, 0, none⟩)] #[], .bool ((num m σ (L : Int) 1).2.bad)] :: tailC m v3 (num m σ (L : Int) 1).2.bs :: boxE q lb vs :: rowC 58 2 (.slice a L c) L (cellsL taxE xs) :: R, boxC pw #[v3, .func (.func (nf m)) #[.pointer (some ⟨pw, 0, none⟩)] #[], .bool true] :: tailC m v3 (num m σ (L : Int) 1).2.bs :: boxE q lb vs :: rowC 58 2 (.slice a L c) L (cellsL taxE xs) :: R] k []) w) (fun _ => (0, undef)) [3] [0, 0, 0, 0, 1] (fun _ _ => false) hz2 (by kernel_rfl) (by kernel_rfl) (by kernel_rfl) ?_ (show Mem _ _ from hM2) ?_ ?_
     · exact ⟨fun _ _ _ => rfl, fun _ _ _ => rfl, fun _ _ _ => rfl, fun _ _ _ => rfl, fun _ _ _ => rfl, trivial⟩
     ·
      refine ⟨?_, ?_, ?_, ?_, ?_, trivial⟩
      · exact op2 (a := 0) rfl fun e w ρ (hM : Mem _ w) E => res_ok (x_move rfl (E.o 0 _ rfl g0_2)) (goes_still rfl rfl hM)
      · exact op2 (a := 0) rfl fun e w ρ (hM : Mem _ w) E => res_ok (x_nil rfl (E.d 0 _ 24 rfl rfl rfl)) (goes_still rfl rfl hM)
      · exact op2 (a := 0) rfl fun e w ρ (hM : Mem _ w) E => res_ok (x_fieldAddr (off := 2) rfl (E.d 1 _ 25 rfl rfl rfl) (by kernel_rfl) rfl) (goes_still rfl rfl hM)
      ·
       refine op2 (a := 0) rfl fun e w ρ (hM : Mem _ w) E => ?_
       have e26 := E.d 2 _ 26 rfl rfl rfl
       obtain ⟨w', hr, hm⟩ := Mem.store (P := Try.prog) hM 0 rfl 4 2 (.bool true) [.bool true] rfl (by kernel_rfl) (Nat.le_of_ble_eq_true rfl) (by rfl)
       exact res_st (x_store rfl (e26) (E.c _) hr) (goes_tick rfl (0, undef) rfl hm)
      · exact op2 (a := 1) rfl fun e w ρ (hM : Mem _ w) E => res_ok (x_assign rfl (E.c _)) (goes_still rfl rfl hM)
     ·
      intro e a3 w3 hz3 hd hG hO hM
      have hd3 := hd.trans hd2
      have g1_3 := (hO 1 rfl).trans g1_2
      have g3_3 := (hO 3 rfl).trans g3_2
      have g8_3 : a3.tmps[8]? = some (.int .i64 0) := hG 4 _ 8 rfl rfl
      have hM3 : Mem (boxC pw #[v3, .func (.func (nf m)) #[.pointer (some ⟨pw, 0, none⟩)] #[], .bool true] :: tailC m v3 (num m σ (L : Int) 1).2.bs :: boxE q lb vs :: rowC 58 2 (.slice a L c) L (cellsL taxE xs) :: R) w3 := hM
      clear hM hG hO hd
      clear hz2 hd2 hM2 g0_2 g1_2 g3_2 g8_2 g23_2
      refine then_n ?_
      exact ⟨(0, ⟨true, (num m σ (L : Int) 1).2.bs⟩), ⟨hz3, hd3, g1_3, g3_3, (by have h := g8_3; exact h.trans (by congr 2 <;> omega)), (by first | exact walk_shut hM3 | exact hM3), (by first | exact listN_bad ‹_› | exact listN_of ‹_›)⟩⟩
    ·
     refine cond_f (g23_2.trans (by rw [decide_eq_false hc1])) ?_
     refine wp_skip ?_
     refine then_n ?_
     exact ⟨((num m σ (L : Int) 1).1.toNat, (num m σ (L : Int) 1).2), ⟨hz2, hd2, g1_2, g3_2, (by have h := g8_2; exact h.trans (by congr 2 <;> omega)), (by first | exact walk_shut hM2 | exact hM2), (by first | exact listN_bad ‹_› | exact listN_of ‹_›)⟩⟩
  ·
   clear hz1 hd1 hM1 g0_1 g1_1 g2_1 g3_1 g8_1
   rintro a4 w4 ⟨⟨n, σ2⟩, hI⟩
   try dsimp only at hI
   obtain ⟨hz4, hd4, g1_4, g3_4, g8_4, hM4, hp⟩ := hI
   have hLn : L ≤ n := by have h := hc; rw [hp] at h; exact h
   have hnm : n ≤ most := by have h := listN_most m σ L most; rw [hp] at h; exact h
   have hs2 : σ2.bs.length ≤ σ.bs.length + 1 := by have h := listN_len m σ L most; rw [hp] at h; exact h
   have hbl : (xs ++ List.replicate (n - L) (⟨ByteArray.empty, 0⟩ : TaxV)).length = n := by rw [List.length_append, List.length_replicate]; omega
   have hLF : listF (taxF m) (⟨ByteArray.empty, 0⟩ : TaxV) m σ xs most = eachL (taxF m) σ2 (xs ++ List.replicate (n - L) (⟨ByteArray.empty, 0⟩ : TaxV)) := by rw [hLx]; exact listF_eq (by rw [← hLx]; exact hp)
   have hokb : ∀ x ∈ (xs ++ List.replicate (n - L) (⟨ByteArray.empty, 0⟩ : TaxV)), ∀ σ : WS, TextOk m σ x.code ∧ x.code.size ≤ 1000000 := fun x hx σ => by
    rcases List.mem_append.1 hx with h | h
    · exact (hok x h).ok σ
    · rw [(List.mem_replicate.1 h).2]; exact (LoT.nil m).ok σ
   refine wp_seq ?_
   refine region_draw 70 (fun zz e => (#[.pointer (some ⟨lb, lo, none⟩), .pointer (some ⟨lb, lo, none⟩), .pointer (some ⟨lb, lo, none⟩), .slice a L c, .int .i64 (n : Int), .pointer (some ⟨lb, lo, none⟩), .pointer (some ⟨lb, lo, none⟩), .slice a L c, .int .i64 (L : Int), .int .i64 (L : Int), .slice a L c, .int .i64 (n : Int), .int .i64 (n : Int), .pointer (some ⟨lb, lo, none⟩), .pointer (some ⟨lb, lo, none⟩), .slice a L c, .int .i64 (L : Int), .int .i64 (L : Int), .int .i64 ((n - L : Nat) : Int), (e 0).2, .pointer (some ⟨lb, lo, none⟩), undef] : Array Value).getD zz undef) (fun k e w => Mem (List.getD [walkC m pw σ2 :: boxE q lb vs :: rowC 58 2 (.slice a L c) L (cellsL taxE xs) :: R, walkC m pw σ2 :: boxE q lb vs :: rowC 58 2 (e 0).2 n (cellsL taxE (xs ++ List.replicate (n - L) (⟨ByteArray.empty, 0⟩ : TaxV))) :: R, walkC m pw σ2 :: boxE q lb (over vs lo [(e 0).2]) :: rowC 58 2 (e 0).2 n (cellsL taxE (xs ++ List.replicate (n - L) (⟨ByteArray.empty, 0⟩ : TaxV))) :: R] k []) w) (fun _ => (0, undef)) [19, 21] [[], [], [1], [1, 2], [], [], [5], [5, 6], [5, 6, 7], [4, 5, 6, 7, 8], [1, 2, 3, 4, 5, 6, 7, 8, 9], [], [], [], [13], [13, 14], [13, 14, 15], [12, 13, 14, 15, 16], [11, 12, 13, 14, 15, 16, 17], [1, 2, 3, 4, 5, 6, 7, 8, 9, 10, 11, 12, 13, 14, 15, 16, 17, 18], [0, 1, 2, 3, 4, 5, 6, 7, 8, 9, 10, 11, 12, 13, 14, 15, 16, 17, 18, 19], [0, 1, 2, 3, 4, 5, 6, 7, 8, 9, 10, 11, 12, 13, 14, 15, 16, 17, 18, 19, 20]] [0, 0, 0, 0, 0, 0, 0, 0, 0, 0, 0, 0, 0, 0, 0, 0, 0, 0, 0, 0, 1, 1] [1, 0, 0, 0, 0, 0, 0, 0, 0, 0, 0, 0, 0, 0, 0, 0, 0, 0, 0, 0, 1, 1] (fun _ _ => false) hz4 (by kernel_rfl) (by kernel_rfl) (by kernel_rfl) (by kernel_rfl) (by kernel_rfl) ?_ (show Mem _ _ from hM4.drew) ?_ ?_
   · exact ⟨fun _ _ _ => rfl, fun _ _ _ => rfl, fun _ _ _ => rfl, fun _ _ _ => rfl, fun _ _ _ => rfl, fun _ _ _ => rfl, fun _ _ _ => rfl, fun _ _ _ => rfl, fun _ _ _ => rfl, fun _ _ _ => rfl, fun _ _ _ => rfl, fun _ _ _ => rfl, fun _ _ _ => rfl, fun _ _ _ => rfl, fun _ _ _ => rfl, fun _ _ _ => rfl, fun _ _ _ => rfl, fun _ _ _ => rfl, fun _ _ _ => rfl, fun e e' h => congrArg (fun x : Rv => (x.2 : Value)) (h 0 (by decide)), fun _ _ _ => rfl, fun _ _ _ => rfl, trivial⟩
   ·
    refine ⟨?_, ?_, ?_, ?_, ?_, ?_, ?_, ?_, ?_, ?_, ?_, ?_, ?_, ?_, ?_, ?_, ?_, ?_, ?_, ?_, ?_, ?_, trivial⟩
    ·
     intro zk e w ρ zhl zhh hO E
     obtain rfl | rfl : zk = 0 ∨ zk = 1 := by have h1 : 0 ≤ zk := zhl; have h2 : zk ≤ 1 := zhh; omega
     ·
      have e1 := E.o 1 _ rfl g1_4
      have hM : Mem _ w := hO
      refine (if_pos rfl).mpr ?_
      exact res_ok (x_move rfl (e1)) (goes_still rfl rfl hM)
     ·
      have e1 := E.o 1 _ rfl g1_4
      have hM : Mem _ w := hO
      refine (if_pos rfl).mpr ?_
      exact res_ok (x_move rfl (e1)) (goes_still rfl rfl hM)
    · exact op2 (a := 0) rfl fun e w ρ (hM : Mem _ w) E => res_ok (x_move rfl (E.o 1 _ rfl g1_4)) (goes_still rfl rfl hM)
    · exact op2 (a := 0) rfl fun e w ρ (hM : Mem _ w) E => res_ok (x_nil rfl (E.d 1 _ 28 rfl rfl rfl)) (goes_still rfl rfl hM)
    ·
     refine op2 (a := 0) rfl fun e w ρ (hM : Mem _ w) E => ?_
     have e29 : ρ (.tmp 29) = .pointer (some ⟨lb, lo, none⟩) := E.d 2 _ 29 rfl rfl rfl
     exact res_ok (x_load rfl (e29) (by kernel_rfl) ((hM.box 1 rfl).cell lo hl)) (goes_still rfl rfl hM)
    · exact op2 (a := 0) rfl fun e w ρ (hM : Mem _ w) E => res_ok (x_move rfl (E.o 8 _ rfl g8_4)) (goes_still rfl rfl hM)
    · exact op2 (a := 0) rfl fun e w ρ (hM : Mem _ w) E => res_ok (x_move rfl (E.o 1 _ rfl g1_4)) (goes_still rfl rfl hM)
    · exact op2 (a := 0) rfl fun e w ρ (hM : Mem _ w) E => res_ok (x_nil rfl (E.d 5 _ 32 rfl rfl rfl)) (goes_still rfl rfl hM)
    ·
     refine op2 (a := 0) rfl fun e w ρ (hM : Mem _ w) E => ?_
     have e33 : ρ (.tmp 33) = .pointer (some ⟨lb, lo, none⟩) := E.d 6 _ 33 rfl rfl rfl
     exact res_ok (x_load rfl (e33) (by kernel_rfl) ((hM.box 1 rfl).cell lo hl)) (goes_still rfl rfl hM)
    ·
     refine op2 (a := 0) rfl fun e w ρ (hM : Mem _ w) E => ?_
     have e34 : ρ (.tmp 34) = .slice a L c := E.d 7 _ 34 rfl rfl rfl
     exact res_ok (x_len (n := 2) rfl rfl rfl rfl (e34) (by kernel_rfl)) (goes_still rfl rfl hM)
    ·
     refine op2 (a := 0) rfl fun e w ρ (hM : Mem _ w) E => ?_
     have e31 : ρ (.tmp 31) = .int .i64 (n : Int) := E.d 4 _ 31 rfl rfl rfl
     have e35 : ρ (.tmp 35) = .int .i64 (L : Int) := E.d 8 _ 35 rfl rfl rfl
     exact res_ok (x_min rfl rfl rfl (e31) (e35) (minL hLn)) (goes_still rfl rfl hM)
    ·
     refine op2 (a := 0) rfl fun e w ρ (hM : Mem _ w) E => ?_
     have e30 : ρ (.tmp 30) = .slice a L c := E.d 3 _ 30 rfl rfl rfl
     have e36 : ρ (.tmp 36) = .int .i64 (L : Int) := E.d 9 _ 36 rfl rfl rfl
     exact res_ok (x_sliceHi (n := 2) rfl (e30) (e36) (by kernel_rfl) hLc) (goes_still rfl rfl hM)
    · exact op2 (a := 0) rfl fun e w ρ (hM : Mem _ w) E => res_ok (x_move rfl (E.o 8 _ rfl g8_4)) (goes_still rfl rfl hM)
    · exact op2 (a := 0) rfl fun e w ρ (hM : Mem _ w) E => res_ok (x_move rfl (E.o 8 _ rfl g8_4)) (goes_still rfl rfl hM)
    · exact op2 (a := 0) rfl fun e w ρ (hM : Mem _ w) E => res_ok (x_move rfl (E.o 1 _ rfl g1_4)) (goes_still rfl rfl hM)
    · exact op2 (a := 0) rfl fun e w ρ (hM : Mem _ w) E => res_ok (x_nil rfl (E.d 13 _ 40 rfl rfl rfl)) (goes_still rfl rfl hM)
    ·
     refine op2 (a := 0) rfl fun e w ρ (hM : Mem _ w) E => ?_
     have e41 : ρ (.tmp 41) = .pointer (some ⟨lb, lo, none⟩) := E.d 14 _ 41 rfl rfl rfl
     exact res_ok (x_load rfl (e41) (by kernel_rfl) ((hM.box 1 rfl).cell lo hl)) (goes_still rfl rfl hM)
    ·
     refine op2 (a := 0) rfl fun e w ρ (hM : Mem _ w) E => ?_
     have e42 : ρ (.tmp 42) = .slice a L c := E.d 15 _ 42 rfl rfl rfl
     exact res_ok (x_len (n := 2) rfl rfl rfl rfl (e42) (by kernel_rfl)) (goes_still rfl rfl hM)
    ·
     refine op2 (a := 0) rfl fun e w ρ (hM : Mem _ w) E => ?_
     have e39 : ρ (.tmp 39) = .int .i64 (n : Int) := E.d 12 _ 39 rfl rfl rfl
     have e43 : ρ (.tmp 43) = .int .i64 (L : Int) := E.d 16 _ 43 rfl rfl rfl
     exact res_ok (x_min rfl rfl rfl (e39) (e43) (minL hLn)) (goes_still rfl rfl hM)
    · exact op2 (a := 0) rfl fun e w ρ (hM : Mem _ w) E => res_ok (x_sub rfl (E.d 11 _ 38 rfl rfl rfl) (E.d 17 _ 44 rfl rfl rfl) ((wr_i64 (by omega)).trans (by omega))) (goes_still rfl rfl hM)
    ·
     refine op2 (a := 0) rfl fun e w ρ (hM : Mem _ w) E => ?_
     have e37 : ρ (.tmp 37) = .slice a L c := E.d 10 _ 37 rfl rfl rfl
     have e45 : ρ (.tmp 45) = .int .i64 ((n - L : Nat) : Int) := E.d 18 _ 45 rfl rfl rfl
     obtain ⟨v', w', hr, hm⟩ := Mem.append_zeros (P := Try.prog) hM 2 rfl 26 3 26 .i64 24 (.agg #[.string ByteArray.empty, .int .i64 0]) Try.underlying26 Try.underlying3 (by kernel_rfl) rfl (by decide) (by simp [Value.oneCell', Value.cells]) (n - L) (by unfold maxLen; omega) (by omega)
     rw [zeros_enc (enc := taxE) (z := (⟨ByteArray.empty, 0⟩ : TaxV)) (zc := (.agg #[.string ByteArray.empty, .int .i64 0] : Value).cells) rfl (by decide), ← cellsL_append, show L + (n - L) = n from by omega] at hm
     exact res_ok (x_append rfl rfl rfl rfl (e37) (e45) hr) (goes_tick rfl (0, v') rfl hm)
    · exact op2 (a := 1) rfl fun e w ρ (hM : Mem _ w) E => res_ok (x_nil rfl (E.d 0 _ 27 rfl rfl rfl)) (goes_still rfl rfl hM)
    ·
     refine op2 (a := 1) rfl fun e w ρ (hM : Mem _ w) E => ?_
     have e46 : ρ (.tmp 46) = (e 0).2 := E.d 19 _ 46 rfl rfl rfl
     have e47 : ρ (.tmp 47) = .pointer (some ⟨lb, lo, none⟩) := E.d 20 _ 47 rfl rfl rfl
     have hrc := row_cell (hM.owns 2 rfl)
     obtain ⟨w', hr, hm⟩ := Mem.store (P := Try.prog) hM 1 rfl 26 lo ((e 0).2) [(e 0).2] hrc.1 (by kernel_rfl) hlo (by simp [hrc.2])
     exact res_st (x_store rfl (e47) (e46) hr) (goes_tick rfl (0, undef) rfl hm)
   ·
    intro e a5 w5 hz5 hd hG hO hM
    have hd5 := hd.trans hd4
    have g1_5 := (hO 1 rfl).trans g1_4
    have g3_5 := (hO 3 rfl).trans g3_4
    have hM5 : Mem (walkC m pw σ2 :: boxE q lb (over vs lo [(e 0).2]) :: rowC 58 2 (e 0).2 n (cellsL taxE (xs ++ List.replicate (n - L) (⟨ByteArray.empty, 0⟩ : TaxV))) :: R) w5 := hM
    clear hM hG hO hd
    clear hz4 hd4 hM4 g1_4 g3_4 g8_4
    generalize (e 0).2 = v5_0 at *
    obtain ⟨a2, c2, rfl, hnc, hcm⟩ := row_slice hM5 2 rfl
    refine then_n ?_
    refine wp_seq ?_
    refine wp_seq ?_
    rcases Nat.eq_zero_or_pos n with hn0 | hn0
    ·
     obtain rfl : n = 0 := by omega
     refine region_seq 70 (fun zz e => (#[.pointer (some ⟨lb, lo, none⟩), .pointer (some ⟨lb, lo, none⟩), .slice a2 0 c2, .int .i64 0, .int .i64 0] : Array Value).getD zz undef) (fun k e w => Mem (List.getD [walkC m pw σ2 :: boxE q lb (over vs lo [(.slice a2 0 c2)]) :: rowC 58 2 (.slice a2 0 c2) 0 (cellsL taxE (xs ++ List.replicate (0 - L) (⟨ByteArray.empty, 0⟩ : TaxV))) :: R] k []) w) (fun _ => (0, undef)) [] [0, 0, 0, 0, 0] (fun _ _ => false) hz5 (by kernel_rfl) (by kernel_rfl) (by kernel_rfl) ?_ (show Mem _ _ from hM5) ?_ ?_
     · exact ⟨fun _ _ _ => rfl, fun _ _ _ => rfl, fun _ _ _ => rfl, fun _ _ _ => rfl, fun _ _ _ => rfl, trivial⟩
     ·
      refine ⟨?_, ?_, ?_, ?_, ?_, trivial⟩
      · exact op2 (a := 0) rfl fun e w ρ (hM : Mem _ w) E => res_ok (x_move rfl (E.o 1 _ rfl g1_5)) (goes_still rfl rfl hM)
      · exact op2 (a := 0) rfl fun e w ρ (hM : Mem _ w) E => res_ok (x_nil rfl (E.d 0 _ 48 rfl rfl rfl)) (goes_still rfl rfl hM)
      ·
       refine op2 (a := 0) rfl fun e w ρ (hM : Mem _ w) E => ?_
       have e49 : ρ (.tmp 49) = .pointer (some ⟨lb, lo, none⟩) := E.d 1 _ 49 rfl rfl rfl
       exact res_ok (x_load rfl (e49) (by kernel_rfl) ((hM.box 1 rfl).cell lo (over_get hlo))) (goes_still rfl rfl hM)
      ·
       refine op2 (a := 0) rfl fun e w ρ (hM : Mem _ w) E => ?_
       have e50 : ρ (.tmp 50) = .slice a2 0 c2 := E.d 2 _ 50 rfl rfl rfl
       exact res_ok (x_len (n := 2) rfl rfl rfl rfl (e50) (by kernel_rfl)) (goes_still rfl rfl hM)
      · exact op2 (a := 0) rfl fun e w ρ (hM : Mem _ w) E => res_ok (x_move rfl (E.c _)) (goes_still rfl rfl hM)
     ·
      intro e a6 w6 hz6 hd hG hO hM
      have hd6 := hd.trans hd5
      have g1_6 := (hO 1 rfl).trans g1_5
      have g3_6 := (hO 3 rfl).trans g3_5
      have g51_6 : a6.tmps[51]? = some (.int .i64 0) := hG 3 _ 51 rfl rfl
      have g52_6 : a6.tmps[52]? = some (.int .i64 0) := hG 4 _ 52 rfl rfl
      have hM6 : Mem (walkC m pw σ2 :: boxE q lb (over vs lo [(.slice a2 0 c2)]) :: rowC 58 2 (.slice a2 0 c2) 0 (cellsL taxE (xs ++ List.replicate (0 - L) (⟨ByteArray.empty, 0⟩ : TaxV))) :: R) w6 := hM
      clear hM hG hO hd
      clear hz5 hd5 hM5 g1_5 g3_5
      refine then_n ?_
      refine wp_block ?_
      refine loopx (X := Unit) (fun xx aa ww => aa.tmps.size = 70 ∧ aa.defers = [] ∧ aa.tmps[1]? = some (.pointer (some ⟨lb, lo, none⟩)) ∧ aa.tmps[3]? = some (.func (.func 60) #[.pointer (some ⟨pw, 0, none⟩)] #[]) ∧ aa.tmps[51]? = some (.int .i64 0) ∧ aa.tmps[52]? = some (.int .i64 0) ∧ Mem (walkC m pw σ2 :: boxE q lb (over vs lo [(.slice a2 0 c2)]) :: rowC 58 2 (.slice a2 0 c2) 0 (cellsL taxE (xs ++ List.replicate (0 - L) (⟨ByteArray.empty, 0⟩ : TaxV))) :: R) ww) (fun _ => 0) (()) ?_ ?_
      ·
       exact ⟨hz6, hd6, g1_6, g3_6, g51_6, g52_6, (hM6)⟩
      ·
       clear hz6 hd6 hM6 g1_6 g3_6 g51_6 g52_6
       rintro _ a7 w7 hI
       obtain ⟨hz7, hd7, g1_7, g3_7, g51_7, g52_7, hM7⟩ := hI
       refine wp_seq ?_
       refine region_seq 70 (fun zz e => (#[.bool false] : Array Value).getD zz undef) (fun k e w => Mem (List.getD [walkC m pw σ2 :: boxE q lb (over vs lo [(.slice a2 0 c2)]) :: rowC 58 2 (.slice a2 0 c2) 0 (cellsL taxE (xs ++ List.replicate (0 - L) (⟨ByteArray.empty, 0⟩ : TaxV))) :: R] k []) w) (fun _ => (0, undef)) [] [0] (fun _ _ => false) hz7 (by kernel_rfl) (by kernel_rfl) (by kernel_rfl) ?_ (show Mem _ _ from hM7) ?_ ?_
       · exact ⟨fun _ _ _ => rfl, trivial⟩
       ·
        refine ⟨?_, trivial⟩
        · exact op2 (a := 0) rfl fun e w ρ (hM : Mem _ w) E => res_ok (x_lss rfl (E.o 52 _ rfl g52_7) (E.o 51 _ rfl g51_7) (by decide)) (goes_still rfl rfl hM)
       ·
        intro e a8 w8 hz8 hd hG hO hM
        have hd8 := hd.trans hd7
        have g1_8 := (hO 1 rfl).trans g1_7
        have g3_8 := (hO 3 rfl).trans g3_7
        have g51_8 := (hO 51 rfl).trans g51_7
        have g52_8 := (hO 52 rfl).trans g52_7
        have g53_8 : a8.tmps[53]? = some (.bool false) := hG 0 _ 53 rfl rfl
        have hM8 : Mem (walkC m pw σ2 :: boxE q lb (over vs lo [(.slice a2 0 c2)]) :: rowC 58 2 (.slice a2 0 c2) 0 (cellsL taxE (xs ++ List.replicate (0 - L) (⟨ByteArray.empty, 0⟩ : TaxV))) :: R) w8 := hM
        clear hM hG hO hd
        clear hz7 hd7 hM7 g1_7 g3_7 g51_7 g52_7
        refine then_n ?_
        refine wp_seq ?_
        refine cond_f g53_8 ?_
        refine wp_exit ?_
        refine then_x ?_
        refine then_x ?_
        refine blk_x ?_
        refine then_n ?_
        refine wp_seq ?_
        refine region_seq 70 (fun zz e => (#[.pointer (some ⟨lb, lo, none⟩), .pointer (some ⟨lb, lo, none⟩), .slice a2 0 c2, .int .i64 0, .bool true] : Array Value).getD zz undef) (fun k e w => Mem (List.getD [walkC m pw σ2 :: boxE q lb (over vs lo [(.slice a2 0 c2)]) :: rowC 58 2 (.slice a2 0 c2) 0 (cellsL taxE (xs ++ List.replicate (0 - L) (⟨ByteArray.empty, 0⟩ : TaxV))) :: R] k []) w) (fun _ => (0, undef)) [] [0, 0, 0, 0, 0] (fun _ _ => false) hz8 (by kernel_rfl) (by kernel_rfl) (by kernel_rfl) ?_ (show Mem _ _ from hM8) ?_ ?_
        · exact ⟨fun _ _ _ => rfl, fun _ _ _ => rfl, fun _ _ _ => rfl, fun _ _ _ => rfl, fun _ _ _ => rfl, trivial⟩
        ·
         refine ⟨?_, ?_, ?_, ?_, ?_, trivial⟩
         · exact op2 (a := 0) rfl fun e w ρ (hM : Mem _ w) E => res_ok (x_move rfl (E.o 1 _ rfl g1_8)) (goes_still rfl rfl hM)
         · exact op2 (a := 0) rfl fun e w ρ (hM : Mem _ w) E => res_ok (x_nil rfl (E.d 0 _ 63 rfl rfl rfl)) (goes_still rfl rfl hM)
         ·
          refine op2 (a := 0) rfl fun e w ρ (hM : Mem _ w) E => ?_
          have e64 : ρ (.tmp 64) = .pointer (some ⟨lb, lo, none⟩) := E.d 1 _ 64 rfl rfl rfl
          exact res_ok (x_load rfl (e64) (by kernel_rfl) ((hM.box 1 rfl).cell lo (over_get hlo))) (goes_still rfl rfl hM)
         ·
          refine op2 (a := 0) rfl fun e w ρ (hM : Mem _ w) E => ?_
          have e65 : ρ (.tmp 65) = .slice a2 0 c2 := E.d 2 _ 65 rfl rfl rfl
          exact res_ok (x_len (n := 2) rfl rfl rfl rfl (e65) (by kernel_rfl)) (goes_still rfl rfl hM)
         ·
          refine op2 (a := 0) rfl fun e w ρ (hM : Mem _ w) E => ?_
          have e66 : ρ (.tmp 66) = .int .i64 0 := E.d 3 _ 66 rfl rfl rfl
          exact res_ok (x_eql rfl (e66) (E.c _) (by decide)) (goes_still rfl rfl hM)
        ·
         intro e a9 w9 hz9 hd hG hO hM
         have hd9 := hd.trans hd8
         have g1_9 := (hO 1 rfl).trans g1_8
         have g67_9 : a9.tmps[67]? = some (.bool true) := hG 4 _ 67 rfl rfl
         have hM9 : Mem (walkC m pw σ2 :: boxE q lb (over vs lo [(.slice a2 0 c2)]) :: rowC 58 2 (.slice a2 0 c2) 0 (cellsL taxE (xs ++ List.replicate (0 - L) (⟨ByteArray.empty, 0⟩ : TaxV))) :: R) w9 := hM
         clear hM hG hO hd
         clear hz8 hd8 hM8 g1_8 g3_8 g51_8 g52_8 g53_8
         refine then_n ?_
         refine cond_t g67_9 ?_
         refine region_seq 70 (fun zz e => (#[.pointer (some ⟨lb, lo, none⟩), .pointer (some ⟨lb, lo, none⟩), undef] : Array Value).getD zz undef) (fun k e w => Mem (List.getD [walkC m pw σ2 :: boxE q lb (over vs lo [(.slice a2 0 c2)]) :: rowC 58 2 (.slice a2 0 c2) 0 (cellsL taxE (xs ++ List.replicate (0 - L) (⟨ByteArray.empty, 0⟩ : TaxV))) :: R, walkC m pw σ2 :: boxE q lb (over vs lo [.slice none 0 0]) :: rowC 58 2 (.slice a2 0 c2) 0 (cellsL taxE (xs ++ List.replicate (0 - L) (⟨ByteArray.empty, 0⟩ : TaxV))) :: R] k []) w) (fun _ => (0, undef)) [2] [0, 0, 0] (fun _ _ => false) hz9 (by kernel_rfl) (by kernel_rfl) (by kernel_rfl) ?_ (show Mem _ _ from hM9) ?_ ?_
         · exact ⟨fun _ _ _ => rfl, fun _ _ _ => rfl, fun _ _ _ => rfl, trivial⟩
         ·
          refine ⟨?_, ?_, ?_, trivial⟩
          · exact op2 (a := 0) rfl fun e w ρ (hM : Mem _ w) E => res_ok (x_move rfl (E.o 1 _ rfl g1_9)) (goes_still rfl rfl hM)
          · exact op2 (a := 0) rfl fun e w ρ (hM : Mem _ w) E => res_ok (x_nil rfl (E.d 0 _ 68 rfl rfl rfl)) (goes_still rfl rfl hM)
          ·
           refine op2 (a := 0) rfl fun e w ρ (hM : Mem _ w) E => ?_
           have e69 : ρ (.tmp 69) = .pointer (some ⟨lb, lo, none⟩) := E.d 1 _ 69 rfl rfl rfl
           obtain ⟨w', hr, hm⟩ := Mem.store (P := Try.prog) hM 1 rfl 26 lo (.slice none 0 0) [.slice none 0 0] rfl (by kernel_rfl) (by rw [over_size hlo]; exact hlo) rfl
           rw [over_again hlo] at hm
           exact res_st (x_store rfl (e69) (E.c _) hr) (goes_tick rfl (0, undef) rfl hm)
         ·
          intro e a10 w10 hz10 hd hG hO hM
          have hd10 := hd.trans hd9
          have hM10 : Mem (walkC m pw σ2 :: boxE q lb (over vs lo [.slice none 0 0]) :: rowC 58 2 (.slice a2 0 c2) 0 (cellsL taxE (xs ++ List.replicate (0 - L) (⟨ByteArray.empty, 0⟩ : TaxV))) :: R) w10 := hM
          clear hM hG hO hd
          clear hz9 hd9 hM9 g1_9 g67_9
          refine end_r ?_
          refine ret_0 Try.results59 hd10 ?_
          have h := none_row (E := 58) (size := 2) ((hM10).front 2 rfl)
          have hfl : (listF (taxF m) (⟨ByteArray.empty, 0⟩ : TaxV) m σ xs most) = ([], σ2) := by rw [hLF]; have hx0 : xs = [] := List.length_eq_zero_iff.1 (by omega); rw [hx0, Nat.zero_sub]; rfl
          refine ⟨.slice none 0 0, rfl, ?_, fun _ => rfl⟩
          rw [hfl]
          exact ((h.front 2 rfl).front 2 rfl)
    ·
     obtain ⟨g, cap, cur, hv, hMb, hncap, hcapm, hcsz, hctk⟩ := row_box (hM5.front 2 rfl) hn0
     injection hv with hva hvb hvc
     subst hva
     obtain rfl : cap = c2 := hvc.symm
     have hE0 : EachI taxE 2 (taxF m) (fun σ x => TextOk m σ x.code ∧ x.code.size ≤ 1000000) 41 σ2 (xs ++ List.replicate (n - L) (⟨ByteArray.empty, 0⟩ : TaxV)) cap 0 σ2 cur [] (xs ++ List.replicate (n - L) (⟨ByteArray.empty, 0⟩ : TaxV)) := EachI.start (by rw [hbl]; exact hncap) hcsz (by rw [hbl]; exact hctk)
     replace hM5 : Mem (boxE (some 58) g cur :: walkC m pw σ2 :: boxE q lb (over vs lo [(.slice (some ⟨g, 0, none⟩) n cap)]) :: R) w5 := hMb
     refine region_seq 70 (fun zz e => (#[.pointer (some ⟨lb, lo, none⟩), .pointer (some ⟨lb, lo, none⟩), .slice (some ⟨g, 0, none⟩) n cap, .int .i64 (n : Int), .int .i64 0] : Array Value).getD zz undef) (fun k e w => Mem (List.getD [boxE (some 58) g cur :: walkC m pw σ2 :: boxE q lb (over vs lo [(.slice (some ⟨g, 0, none⟩) n cap)]) :: R] k []) w) (fun _ => (0, undef)) [] [0, 0, 0, 0, 0] (fun _ _ => false) hz5 (by kernel_rfl) (by kernel_rfl) (by kernel_rfl) ?_ (show Mem _ _ from hM5) ?_ ?_
     · exact ⟨fun _ _ _ => rfl, fun _ _ _ => rfl, fun _ _ _ => rfl, fun _ _ _ => rfl, fun _ _ _ => rfl, trivial⟩
     ·
      refine ⟨?_, ?_, ?_, ?_, ?_, trivial⟩
      · exact op2 (a := 0) rfl fun e w ρ (hM : Mem _ w) E => res_ok (x_move rfl (E.o 1 _ rfl g1_5)) (goes_still rfl rfl hM)
      · exact op2 (a := 0) rfl fun e w ρ (hM : Mem _ w) E => res_ok (x_nil rfl (E.d 0 _ 48 rfl rfl rfl)) (goes_still rfl rfl hM)
      ·
       refine op2 (a := 0) rfl fun e w ρ (hM : Mem _ w) E => ?_
       have e49 : ρ (.tmp 49) = .pointer (some ⟨lb, lo, none⟩) := E.d 1 _ 49 rfl rfl rfl
       exact res_ok (x_load rfl (e49) (by kernel_rfl) ((hM.box 2 rfl).cell lo (over_get hlo))) (goes_still rfl rfl hM)
      ·
       refine op2 (a := 0) rfl fun e w ρ (hM : Mem _ w) E => ?_
       have e50 : ρ (.tmp 50) = .slice (some ⟨g, 0, none⟩) n cap := E.d 2 _ 50 rfl rfl rfl
       exact res_ok (x_len (n := 2) rfl rfl rfl rfl (e50) (by kernel_rfl)) (goes_still rfl rfl hM)
      · exact op2 (a := 0) rfl fun e w ρ (hM : Mem _ w) E => res_ok (x_move rfl (E.c _)) (goes_still rfl rfl hM)
     ·
      intro e a11 w11 hz11 hd hG hO hM
      have hd11 := hd.trans hd5
      have g1_11 := (hO 1 rfl).trans g1_5
      have g3_11 := (hO 3 rfl).trans g3_5
      have g51_11 : a11.tmps[51]? = some (.int .i64 (n : Int)) := hG 3 _ 51 rfl rfl
      have g52_11 : a11.tmps[52]? = some (.int .i64 0) := hG 4 _ 52 rfl rfl
      have hM11 : Mem (boxE (some 58) g cur :: walkC m pw σ2 :: boxE q lb (over vs lo [(.slice (some ⟨g, 0, none⟩) n cap)]) :: R) w11 := hM
      clear hM hG hO hd
      clear hz5 hd5 hM5 g1_5 g3_5
      refine then_n ?_
      refine wp_block ?_
      refine loopx (X := Nat × WS × Array Value × List TaxV × List TaxV) (fun xx aa ww => (fun (i : Nat) (σi : WS) (cur : Array Value) (done : List TaxV) (rest : List TaxV) => aa.tmps.size = 70 ∧ aa.defers = [] ∧ aa.tmps[1]? = some (.pointer (some ⟨lb, lo, none⟩)) ∧ aa.tmps[3]? = some (.func (.func 60) #[.pointer (some ⟨pw, 0, none⟩)] #[]) ∧ aa.tmps[51]? = some (.int .i64 (n : Int)) ∧ aa.tmps[52]? = some (.int .i64 (i : Int)) ∧ Mem (boxE (some 58) g cur :: walkC m pw σi :: boxE q lb (over vs lo [.slice (some ⟨g, 0, none⟩) n cap]) :: R) ww ∧ i ≤ n ∧ EachI taxE 2 (taxF m) (fun σ x => TextOk m σ x.code ∧ x.code.size ≤ 1000000) 41 σ2 (xs ++ List.replicate (n - L) (⟨ByteArray.empty, 0⟩ : TaxV)) cap i σi cur done rest ∧ (∀ x ∈ rest, ∀ σ : WS, TextOk m σ x.code ∧ x.code.size ≤ 1000000)) xx.1 xx.2.1 xx.2.2.1 xx.2.2.2.1 xx.2.2.2.2) (fun xx => (fun (i : Nat) (σi : WS) (cur : Array Value) (done : List TaxV) (rest : List TaxV) => n - i) xx.1 xx.2.1 xx.2.2.1 xx.2.2.2.1 xx.2.2.2.2) ((0, σ2, cur, [], (xs ++ List.replicate (n - L) (⟨ByteArray.empty, 0⟩ : TaxV)))) ?_ ?_
      ·
       exact ⟨hz11, hd11, g1_11, g3_11, g51_11, (by have h := g52_11; exact h.trans (by congr 2 <;> first | rfl | omega)), (hM11), (Nat.zero_le _), (hE0), (hokb)⟩
      ·
       clear hz11 hd11 hM11 g1_11 g3_11 g51_11 g52_11
       rintro ⟨i, σi, cur, done, rest⟩ a12 w12 hI
       dsimp only at hI ⊢
       obtain ⟨hz12, hd12, g1_12, g3_12, g51_12, g52_12, hM12, hi, hE, hR2⟩ := hI
       have hEl := hE.len
       have hEn := hE.hn
       refine wp_seq ?_
       refine region_seq 70 (fun zz e => (#[.bool (decide ((i : Int) < (n : Int)))] : Array Value).getD zz undef) (fun k e w => Mem (List.getD [boxE (some 58) g cur :: walkC m pw σi :: boxE q lb (over vs lo [.slice (some ⟨g, 0, none⟩) n cap]) :: R] k []) w) (fun _ => (0, undef)) [] [0] (fun _ _ => false) hz12 (by kernel_rfl) (by kernel_rfl) (by kernel_rfl) ?_ (show Mem _ _ from hM12) ?_ ?_
       · exact ⟨fun _ _ _ => rfl, trivial⟩
       ·
        refine ⟨?_, trivial⟩
        · exact op2 (a := 0) rfl fun e w ρ (hM : Mem _ w) E => res_ok (x_lss rfl (E.o 52 _ rfl g52_12) (E.o 51 _ rfl g51_12) rfl) (goes_still rfl rfl hM)
       ·
        intro e a13 w13 hz13 hd hG hO hM
        have hd13 := hd.trans hd12
        have g1_13 := (hO 1 rfl).trans g1_12
        have g3_13 := (hO 3 rfl).trans g3_12
        have g51_13 := (hO 51 rfl).trans g51_12
        have g52_13 := (hO 52 rfl).trans g52_12
        have g53_13 : a13.tmps[53]? = some (.bool (decide ((i : Int) < (n : Int)))) := hG 0 _ 53 rfl rfl
        have hM13 : Mem (boxE (some 58) g cur :: walkC m pw σi :: boxE q lb (over vs lo [.slice (some ⟨g, 0, none⟩) n cap]) :: R) w13 := hM
        clear hM hG hO hd
        clear hz12 hd12 hM12 g1_12 g3_12 g51_12 g52_12
        refine then_n ?_
        refine wp_seq ?_
        by_cases hc2 : (i : Int) < (n : Int)
        ·
         refine cond_t (g53_13.trans (by rw [decide_eq_true hc2])) ?_
         obtain ⟨x, rest, rfl⟩ : ∃ x r, rest = x :: r := by
           cases rest with
           | nil => simp at hEn; omega
           | cons x r => exact ⟨x, r, rfl⟩
         refine wp_skip ?_
         refine then_n ?_
         refine wp_seq ?_
         refine wp_block ?_
         refine wp_seq ?_
         refine region_seq 70 (fun zz e => (#[.int .i64 (i : Int), .int .i64 (i : Int)] : Array Value).getD zz undef) (fun k e w => Mem (List.getD [boxE (some 58) g cur :: walkC m pw σi :: boxE q lb (over vs lo [.slice (some ⟨g, 0, none⟩) n cap]) :: R] k []) w) (fun _ => (0, undef)) [] [0, 0] (fun _ _ => false) hz13 (by kernel_rfl) (by kernel_rfl) (by kernel_rfl) ?_ (show Mem _ _ from hM13) ?_ ?_
         · exact ⟨fun _ _ _ => rfl, fun _ _ _ => rfl, trivial⟩
         ·
          refine ⟨?_, ?_, trivial⟩
          · exact op2 (a := 0) rfl fun e w ρ (hM : Mem _ w) E => res_ok (x_move rfl (E.o 52 _ rfl g52_13)) (goes_still rfl rfl hM)
          · exact op2 (a := 0) rfl fun e w ρ (hM : Mem _ w) E => res_ok (x_assign rfl (E.d 0 _ 54 rfl rfl rfl)) (goes_still rfl rfl hM)
         ·
          intro e a14 w14 hz14 hd hG hO hM
          have hd14 := hd.trans hd13
          have g1_14 := (hO 1 rfl).trans g1_13
          have g3_14 := (hO 3 rfl).trans g3_13
          have g9_14 : a14.tmps[9]? = some (.int .i64 (i : Int)) := hG 1 _ 9 rfl rfl
          have g51_14 := (hO 51 rfl).trans g51_13
          have g52_14 := (hO 52 rfl).trans g52_13
          have g53_14 := (hO 53 rfl).trans g53_13
          have g54_14 : a14.tmps[54]? = some (.int .i64 (i : Int)) := hG 0 _ 54 rfl rfl
          have hM14 : Mem (boxE (some 58) g cur :: walkC m pw σi :: boxE q lb (over vs lo [.slice (some ⟨g, 0, none⟩) n cap]) :: R) w14 := hM
          clear hM hG hO hd
          clear hz13 hd13 hM13 g1_13 g3_13 g51_13 g52_13 g53_13
          refine then_n ?_
          refine region_seq 70 (fun zz e => (#[.func (.func 60) #[.pointer (some ⟨pw, 0, none⟩)] #[], .pointer (some ⟨lb, lo, none⟩), .pointer (some ⟨lb, lo, none⟩), .slice (some ⟨g, 0, none⟩) n cap, .int .i64 (i : Int), .pointer (some ⟨g, 0 + i * 2, none⟩), .tuple #[]] : Array Value).getD zz undef) (fun k e w => Mem (List.getD [boxE (some 58) g cur :: walkC m pw σi :: boxE q lb (over vs lo [.slice (some ⟨g, 0, none⟩) n cap]) :: R, walkC m pw (taxF m σi x).2 :: boxE (some 58) g (over cur (0 + i * 2) (taxE (taxF m σi x).1)) :: boxE q lb (over vs lo [.slice (some ⟨g, 0, none⟩) n cap]) :: R] k []) w) (fun _ => (0, undef)) [6] [0, 0, 0, 0, 0, 0, 0] (fun _ _ => false) hz14 (by kernel_rfl) (by kernel_rfl) (by kernel_rfl) ?_ (show Mem _ _ from hM14) ?_ ?_
          · exact ⟨fun _ _ _ => rfl, fun _ _ _ => rfl, fun _ _ _ => rfl, fun _ _ _ => rfl, fun _ _ _ => rfl, fun _ _ _ => rfl, fun _ _ _ => rfl, trivial⟩
          ·
           refine ⟨?_, ?_, ?_, ?_, ?_, ?_, ?_, trivial⟩
           · exact op2 (a := 0) rfl fun e w ρ (hM : Mem _ w) E => res_ok (x_move rfl (E.o 3 _ rfl g3_14)) (goes_still rfl rfl hM)
           · exact op2 (a := 0) rfl fun e w ρ (hM : Mem _ w) E => res_ok (x_move rfl (E.o 1 _ rfl g1_14)) (goes_still rfl rfl hM)
           · exact op2 (a := 0) rfl fun e w ρ (hM : Mem _ w) E => res_ok (x_nil rfl (E.d 1 _ 56 rfl rfl rfl)) (goes_still rfl rfl hM)
           ·
            refine op2 (a := 0) rfl fun e w ρ (hM : Mem _ w) E => ?_
            have e57 : ρ (.tmp 57) = .pointer (some ⟨lb, lo, none⟩) := E.d 2 _ 57 rfl rfl rfl
            exact res_ok (x_load rfl (e57) (by kernel_rfl) ((hM.box 2 rfl).cell lo (over_get hlo))) (goes_still rfl rfl hM)
           · exact op2 (a := 0) rfl fun e w ρ (hM : Mem _ w) E => res_ok (x_move rfl (E.o 9 _ rfl g9_14)) (goes_still rfl rfl hM)
           ·
            refine op2 (a := 0) rfl fun e w ρ (hM : Mem _ w) E => ?_
            have e58 : ρ (.tmp 58) = .slice (some ⟨g, 0, none⟩) n cap := E.d 3 _ 58 rfl rfl rfl
            have e59 : ρ (.tmp 59) = .int .i64 (i : Int) := E.d 4 _ 59 rfl rfl rfl
            exact res_ok (x_idx (n := 2) (i := i) rfl (e58) (e59) (by kernel_rfl) (by omega) rfl) (goes_still rfl rfl hM)
           ·
            refine op2 (a := 0) rfl fun e w ρ (hM : Mem _ w) E => ?_
            have e55 : ρ (.tmp 55) = .func (.func 60) #[.pointer (some ⟨pw, 0, none⟩)] #[] := E.d 0 _ 55 rfl rfl rfl
            have e60 : ρ (.tmp 60) = .pointer (some ⟨g, 0 + i * 2, none⟩) := E.d 5 _ 60 rfl rfl rfl
            refine res_in (x_call (args := #[.pointer (some ⟨pw, 0, none⟩), .pointer (some ⟨g, 0 + i * 2, none⟩)]) rfl rfl (e55) (by simp [e60]) (by kernel_rfl)) ?_
            refine (tax_at m pw σi (some 58) g (0 + i * 2) cur x _ _ ((hM.front 0 rfl).front 1 rfl) (hE.seg (show ∀ x, (taxE x).length = 2 from fun _ => rfl)) (by omega) (hR2 x List.mem_cons_self σi).2 (hR2 x List.mem_cons_self σi).1).mono ?_
            rintro e' w' ⟨rfl, hm⟩
            exact ⟨_, rfl, goes_tick rfl (0, undef) rfl hm⟩
          ·
           intro e a15 w15 hz15 hd hG hO hM
           have hd15 := hd.trans hd14
           have g1_15 := (hO 1 rfl).trans g1_14
           have g3_15 := (hO 3 rfl).trans g3_14
           have g9_15 := (hO 9 rfl).trans g9_14
           have g51_15 := (hO 51 rfl).trans g51_14
           have g52_15 := (hO 52 rfl).trans g52_14
           have g53_15 := (hO 53 rfl).trans g53_14
           have g54_15 := (hO 54 rfl).trans g54_14
           have g55_15 : a15.tmps[55]? = some (.func (.func 60) #[.pointer (some ⟨pw, 0, none⟩)] #[]) := hG 0 _ 55 rfl rfl
           have g56_15 : a15.tmps[56]? = some (.pointer (some ⟨lb, lo, none⟩)) := hG 1 _ 56 rfl rfl
           have g57_15 : a15.tmps[57]? = some (.pointer (some ⟨lb, lo, none⟩)) := hG 2 _ 57 rfl rfl
           have g58_15 : a15.tmps[58]? = some (.slice (some ⟨g, 0, none⟩) n cap) := hG 3 _ 58 rfl rfl
           have g59_15 : a15.tmps[59]? = some (.int .i64 (i : Int)) := hG 4 _ 59 rfl rfl
           have g60_15 : a15.tmps[60]? = some (.pointer (some ⟨g, 0 + i * 2, none⟩)) := hG 5 _ 60 rfl rfl
           have hM15 : Mem (walkC m pw (taxF m σi x).2 :: boxE (some 58) g (over cur (0 + i * 2) (taxE (taxF m σi x).1)) :: boxE q lb (over vs lo [.slice (some ⟨g, 0, none⟩) n cap]) :: R) w15 := hM
           clear hM hG hO hd
           clear hz14 hd14 hM14 g1_14 g3_14 g9_14 g51_14 g52_14 g53_14 g54_14
           refine blk_n ?_
           refine then_n ?_
           refine region_seq 70 (fun zz e => (#[.int .i64 ((i + 1 : Nat) : Int), .int .i64 ((i + 1 : Nat) : Int)] : Array Value).getD zz undef) (fun k e w => Mem (List.getD [walkC m pw (taxF m σi x).2 :: boxE (some 58) g (over cur (0 + i * 2) (taxE (taxF m σi x).1)) :: boxE q lb (over vs lo [.slice (some ⟨g, 0, none⟩) n cap]) :: R] k []) w) (fun _ => (0, undef)) [] [0, 0] (fun i t => (i == 0 && t == 52)) hz15 (by kernel_rfl) (by kernel_rfl) (by kernel_rfl) ?_ (show Mem _ _ from hM15) ?_ ?_
           · exact ⟨fun _ _ _ => rfl, fun _ _ _ => rfl, trivial⟩
           ·
            refine ⟨?_, ?_, trivial⟩
            · exact op2 (a := 0) rfl fun e w ρ (hM : Mem _ w) E => res_ok (x_add rfl (E.o 52 _ rfl g52_15) (E.c _) ((wr_i64 (by omega)).trans (by omega))) (goes_still rfl rfl hM)
            · exact op2 (a := 0) rfl fun e w ρ (hM : Mem _ w) E => res_ok (x_move rfl (E.d 0 _ 62 rfl rfl rfl)) (goes_still rfl rfl hM)
           ·
            intro e a16 w16 hz16 hd hG hO hM
            have hd16 := hd.trans hd15
            have g1_16 := (hO 1 rfl).trans g1_15
            have g3_16 := (hO 3 rfl).trans g3_15
            have g9_16 := (hO 9 rfl).trans g9_15
            have g51_16 := (hO 51 rfl).trans g51_15
            have g52_16 : a16.tmps[52]? = some (.int .i64 ((i + 1 : Nat) : Int)) := hG 1 _ 52 rfl rfl
            have g53_16 := (hO 53 rfl).trans g53_15
            have g54_16 := (hO 54 rfl).trans g54_15
            have g55_16 := (hO 55 rfl).trans g55_15
            have g56_16 := (hO 56 rfl).trans g56_15
            have g57_16 := (hO 57 rfl).trans g57_15
            have g58_16 := (hO 58 rfl).trans g58_15
            have g59_16 := (hO 59 rfl).trans g59_15
            have g60_16 := (hO 60 rfl).trans g60_15
            have g62_16 : a16.tmps[62]? = some (.int .i64 ((i + 1 : Nat) : Int)) := hG 0 _ 62 rfl rfl
            have hM16 : Mem (walkC m pw (taxF m σi x).2 :: boxE (some 58) g (over cur (0 + i * 2) (taxE (taxF m σi x).1)) :: boxE q lb (over vs lo [.slice (some ⟨g, 0, none⟩) n cap]) :: R) w16 := hM
            clear hM hG hO hd
            clear hz15 hd15 hM15 g1_15 g3_15 g9_15 g51_15 g52_15 g53_15 g54_15 g55_15 g56_15 g57_15 g58_15 g59_15 g60_15
            refine then_n ?_
            exact ⟨(i + 1, ((taxF m) σi x).2, over cur (0 + i * 2) (taxE ((taxF m) σi x).1), done ++ [((taxF m) σi x).1], rest), by omega, ⟨hz16, hd16, g1_16, g3_16, g51_16, (by have h := g52_16; exact h.trans (by congr 2 <;> first | rfl | omega)), (((hM16).front 1 rfl)), (by omega), (hE.step (x := x) (show ∀ x, (taxE x).length = 2 from fun _ => rfl) (fun σ x hx => taxF_len m σ x hx.1) (hR2 x List.mem_cons_self σi)), (fun y hy => hR2 y (List.mem_cons_of_mem _ hy))⟩⟩
        ·
         refine cond_f (g53_13.trans (by rw [decide_eq_false hc2])) ?_
         obtain rfl : rest = [] := by
           cases rest with
           | nil => rfl
           | cons x r => simp at hEn; omega
         obtain ⟨hF1, hF2, hF3⟩ := hE.fin
         subst hF2
         have hMr := box_row (n := n) (size := 2) hM13 hncap hcapm hE.sz
         rw [hbl] at hF1
         rw [hF1] at hMr
         replace hM13 : Mem (rowC 58 2 (.slice (some ⟨g, 0, none⟩) n cap) n (cellsL taxE (eachL (taxF m) σ2 (xs ++ List.replicate (n - L) (⟨ByteArray.empty, 0⟩ : TaxV))).1) :: walkC m pw (eachL (taxF m) σ2 (xs ++ List.replicate (n - L) (⟨ByteArray.empty, 0⟩ : TaxV))).2 :: boxE q lb (over vs lo [.slice (some ⟨g, 0, none⟩) n cap]) :: R) w13 := hMr
         refine wp_exit ?_
         refine then_x ?_
         refine then_x ?_
         refine blk_x ?_
         refine then_n ?_
         refine wp_seq ?_
         refine region_seq 70 (fun zz e => (#[.pointer (some ⟨lb, lo, none⟩), .pointer (some ⟨lb, lo, none⟩), .slice (some ⟨g, 0, none⟩) n cap, .int .i64 (n : Int), .bool false] : Array Value).getD zz undef) (fun k e w => Mem (List.getD [rowC 58 2 (.slice (some ⟨g, 0, none⟩) n cap) n (cellsL taxE (eachL (taxF m) σ2 (xs ++ List.replicate (n - L) (⟨ByteArray.empty, 0⟩ : TaxV))).1) :: walkC m pw (eachL (taxF m) σ2 (xs ++ List.replicate (n - L) (⟨ByteArray.empty, 0⟩ : TaxV))).2 :: boxE q lb (over vs lo [.slice (some ⟨g, 0, none⟩) n cap]) :: R] k []) w) (fun _ => (0, undef)) [] [0, 0, 0, 0, 0] (fun _ _ => false) hz13 (by kernel_rfl) (by kernel_rfl) (by kernel_rfl) ?_ (show Mem _ _ from hM13) ?_ ?_
         · exact ⟨fun _ _ _ => rfl, fun _ _ _ => rfl, fun _ _ _ => rfl, fun _ _ _ => rfl, fun _ _ _ => rfl, trivial⟩
         ·
          refine ⟨?_, ?_, ?_, ?_, ?_, trivial⟩
          · exact op2 (a := 0) rfl fun e w ρ (hM : Mem _ w) E => res_ok (x_move rfl (E.o 1 _ rfl g1_13)) (goes_still rfl rfl hM)
          · exact op2 (a := 0) rfl fun e w ρ (hM : Mem _ w) E => res_ok (x_nil rfl (E.d 0 _ 63 rfl rfl rfl)) (goes_still rfl rfl hM)
          ·
           refine op2 (a := 0) rfl fun e w ρ (hM : Mem _ w) E => ?_
           have e64 : ρ (.tmp 64) = .pointer (some ⟨lb, lo, none⟩) := E.d 1 _ 64 rfl rfl rfl
           exact res_ok (x_load rfl (e64) (by kernel_rfl) ((hM.box 2 rfl).cell lo (over_get hlo))) (goes_still rfl rfl hM)
          ·
           refine op2 (a := 0) rfl fun e w ρ (hM : Mem _ w) E => ?_
           have e65 : ρ (.tmp 65) = .slice (some ⟨g, 0, none⟩) n cap := E.d 2 _ 65 rfl rfl rfl
           exact res_ok (x_len (n := 2) rfl rfl rfl rfl (e65) (by kernel_rfl)) (goes_still rfl rfl hM)
          ·
           refine op2 (a := 0) rfl fun e w ρ (hM : Mem _ w) E => ?_
           have e66 : ρ (.tmp 66) = .int .i64 (n : Int) := E.d 3 _ 66 rfl rfl rfl
           exact res_ok (x_eql rfl (e66) (E.c _) (decide_eq_false (by omega))) (goes_still rfl rfl hM)
         ·
          intro e a17 w17 hz17 hd hG hO hM
          have hd17 := hd.trans hd13
          have g1_17 := (hO 1 rfl).trans g1_13
          have g67_17 : a17.tmps[67]? = some (.bool false) := hG 4 _ 67 rfl rfl
          have hM17 : Mem (rowC 58 2 (.slice (some ⟨g, 0, none⟩) n cap) n (cellsL taxE (eachL (taxF m) σ2 (xs ++ List.replicate (n - L) (⟨ByteArray.empty, 0⟩ : TaxV))).1) :: walkC m pw (eachL (taxF m) σ2 (xs ++ List.replicate (n - L) (⟨ByteArray.empty, 0⟩ : TaxV))).2 :: boxE q lb (over vs lo [.slice (some ⟨g, 0, none⟩) n cap]) :: R) w17 := hM
          clear hM hG hO hd
          clear hz13 hd13 hM13 g1_13 g3_13 g51_13 g52_13 g53_13
          refine then_n ?_
          refine cond_f g67_17 ?_
          refine wp_skip ?_
          refine end_r ?_
          refine ret_0 Try.results59 hd17 ?_
          refine ⟨.slice (some ⟨g, 0, none⟩) n cap, rfl, ?_, fun h => ?_⟩
          · rw [hLF, eachL_size, hbl]; exact (((hM17).front 2 rfl).front 2 rfl)
          · have h2 := congrArg List.length h; rw [hLF, eachL_size, hbl] at h2; simp at h2; omega
end Go.Proofs.Ytfcjmpgbohgoeaa
