/- CODEC: the walk of CodecKnown. -/
import Derived.Test.YtfcjmpgbohgoeaaM46
import Derived.Test.YtfcjmpgbohgoeaaCp5
namespace Go.Proofs.Ytfcjmpgbohgoeaa
open Go.RowKit Go.Lib Go.Tk Go.Shelf Go.Vc Go.Sx
set_option linter.unusedVariables false
set_option linter.unusedSimpArgs false
def uD (bs : List Int) : SL := .deep (bs.map fun b => .val (.int .u8 b))
theorem uD_den (bs : List Int) (ε : Env) : (uD bs).den ε = bs.map (.int .u8) := by
  show SV.dens ε _ = _
  rw [dens_map, List.map_map]; rfl
/-- codec.Put of a record in rows of any form -/
theorem putg (r : RecV) (L T : SL) (hL : ∀ ε, L.den ε = cellsL legE r.cmd.legs) (hT : ∀ ε, T.den ε = cellsL taxE r.cmd.taxes) (hw : RecW r) {e : Int} (he : putE r = e) {bs : List Int} (hb : putB r = bs) :
    CallOK Try.prog 12 [.agg (recS r (.raw 0 0) (.raw 0 1))] [((0, 0), .row 36 3 r.cmd.legs.length L []), ((0, 1), .row 58 2 r.cmd.taxes.length T [])] [] (.tup [.raw 1 0, .val (.int .i64 e)]) [((1, 0), .row 5 1 bs.length (uD bs) [])] := by
  subst he
  subst hb
  intro ε R w hM
  have e0 : hden ε ([((0, 0), .row 36 3 r.cmd.legs.length L []), ((0, 1), .row 58 2 r.cmd.taxes.length T [])] ++ []) = hden ε ([((0, 0), legRow r.cmd.legs.length (cellsL legE r.cmd.legs)), ((0, 1), taxRow r.cmd.taxes.length (cellsL taxE r.cmd.taxes))] ++ []) := by
    show [rowC 36 3 (asSl (ε 0 0).2) r.cmd.legs.length (L.den ε), rowC 58 2 (asSl (ε 0 1).2) r.cmd.taxes.length (T.den ε)] = _
    rw [hL, hT]; rfl
  rw [e0] at hM
  refine (putk_ok r hw ε R w hM).mono ?_
  rintro e' w' ⟨x, h1, h2⟩
  refine ⟨x, h1, ?_⟩
  have e1 : ∀ ε, hden ε ([((0, 0), .row 36 3 r.cmd.legs.length L []), ((0, 1), .row 58 2 r.cmd.taxes.length T [])] ++ [((1, 0), .row 5 1 (putB r).length (uD (putB r)) [])]) = hden ε ([((0, 0), legRow r.cmd.legs.length (cellsL legE r.cmd.legs)), ((0, 1), taxRow r.cmd.taxes.length (cellsL taxE r.cmd.taxes))] ++ [((1, 0), u8R (cB (putB r)) (putB r).length)]) := fun ε => by
    show [rowC 36 3 (asSl (ε 0 0).2) r.cmd.legs.length (L.den ε), rowC 58 2 (asSl (ε 0 1).2) r.cmd.taxes.length (T.den ε), rowC 5 1 (asSl (ε 1 0).2) (putB r).length ((uD (putB r)).den ε)] = _
    rw [hL, hT, uD_den]; rfl
  rw [e1]; exact h2
/-- codec.Get of bytes in a row of any form -/
theorem getg (bs : List Int) (L : SL) (hL : ∀ ε, L.den ε = bs.map (.int .u8)) (hin : bs.all (fun x => decide (0 ≤ x ∧ x ≤ 255)) = true) (hb : bs.length ≤ 800000) {r : RecV} (hr : getR bs = r) {e : Int} (he : getE bs = e) :
    CallOK Try.prog 16 [.raw 0 0] [] [((0, 0), .row 5 1 bs.length L [])] (.tup [.agg (recS r (.raw 1 0) (.raw 1 1)), .val (.int .i64 e)]) [((0, 0), .row 5 1 bs.length L []), ((1, 0), legRow r.cmd.legs.length (cellsL legE r.cmd.legs)), ((1, 1), taxRow r.cmd.taxes.length (cellsL taxE r.cmd.taxes))] := by
  subst hr
  subst he
  have h := getk_ok bs (fun x hx => of_decide_eq_true (List.all_eq_true.1 hin x hx)) hb
  have e0 : ∀ ε, (SC.row 5 1 bs.length L []).den ε 0 0 = (u8Row bs).den ε 0 0 := fun ε => by
    show rowC 5 1 (asSl (ε 0 0).2) bs.length (L.den ε) = _
    rw [hL]; rfl
  intro ε R w hM
  have hM : Mem ((SC.row 5 1 bs.length L []).den ε 0 0 :: R) w := hM
  rw [e0] at hM
  refine (h ε R w hM).mono ?_
  rintro e' w' ⟨x, h1, h2⟩
  refine ⟨x, h1, ?_⟩
  have h2 : Mem ((u8Row bs).den (eset ε 1 x) 0 0 :: (hden (eset ε 1 x) [((1, 0), legRow (getR bs).cmd.legs.length (cellsL legE (getR bs).cmd.legs)), ((1, 1), taxRow (getR bs).cmd.taxes.length (cellsL taxE (getR bs).cmd.taxes))] ++ R)) w' := h2
  rw [← e0] at h2; exact h2
def kR1 : RecV := ⟨1, ⟨1, ⟨1, 2⟩, 3, ByteArray.mk #[97, 98], [⟨4, 5, 6⟩], 7, [⟨ByteArray.mk #[88], 8⟩], 9, -1⟩, 0, 0, msg0⟩
def kB1 : List Int := [1,1,1,0,0,0,0,0,0,0,2,3,255,255,255,255,255,255,255,255,2,97,98,1,4,0,5,0,0,0,6,0,0,0,0,0,0,0,7,1,1,88,0,0,0,0,0,0,0,8,0,0,0,0,0,0,0,9]
def kR2 : RecV := ⟨2, cmd0, 1, 2, ⟨3, ⟨4, 5⟩, 6, ⟨7, 8, 9⟩, 10, 11, 12, 13, -2⟩⟩
def kB2 : List Int := recBy kR2
def kR3 : RecV := ⟨1, ⟨0, ⟨0, 0⟩, 0, (ByteArray.mk #[48, 49, 50, 51, 52, 53, 54, 55, 56, 57, 48, 49, 50, 51, 52, 53, 54, 55, 56, 57, 48, 49, 50, 51, 52, 53, 54, 55, 56, 57, 48, 49]), [⟨0, 0, 0⟩, ⟨0, 0, 0⟩, ⟨0, 0, 0⟩, ⟨0, 0, 0⟩], 0, [⟨ByteArray.empty, 0⟩, ⟨ByteArray.empty, 0⟩, ⟨ByteArray.empty, 0⟩, ⟨ByteArray.empty, 0⟩], 0, 0⟩, 0, 0, msg0⟩
def kB3 : List Int := recBy kR3
def CKF : Nat := 8
set_option maxRecDepth 100000 in
theorem known_1 {ret : SV} {rp : Heap} {eb : Env} {R : List Chunk} (h : Go Try.prog CKF ret rp eb R .nrm (rgK Try.prog CKF 10 []) [] []) : Go Try.prog CKF ret rp eb R .nrm [.code (bodyOf Try.prog CKF)] (argSlots 0 []) [] := by
  have hs := same_refl kR2 (by decide)
  exact leaf_cut (rgK Try.prog CKF 10 []) [] [] calNone false 200 [hC 2 1 (putg kR1 (.deep [.val (.int .u8 4), .val (.int .u16 5), .val (.int .u32 6)]) (.deep [.val (.string (ByteArray.mk #[88])), .val (.int .i64 8)]) (fun _ => by kernel_rfl) (fun _ => by kernel_rfl) ⟨by decide +kernel, by decide +kernel, by decide +kernel, by decide +kernel, by decide +kernel⟩ (e := 0) (by kernel_rfl) (bs := kB1) (by kernel_rfl)), hC 6 1 (putg kR2 (.deep []) (.deep []) (fun _ => by kernel_rfl) (fun _ => by kernel_rfl) ⟨by decide +kernel, by decide +kernel, by decide +kernel, by decide +kernel, by decide +kernel⟩ (e := 0) (by kernel_rfl) (bs := kB2) (by kernel_rfl)), hC 7 1 (getg kB2 (uD kB2) (uD_den _) (by decide +kernel) (by decide) (r := kR2) (by kernel_rfl) (e := 0) (by kernel_rfl)), hC 8 32 hs, .stop 10] calNone_ok (by kernel_rfl) h
set_option maxRecDepth 100000 in
theorem known_2 {ret : SV} {rp : Heap} {eb : Env} {R : List Chunk} (h : Go Try.prog CKF ret rp eb R .nrm (rgK Try.prog CKF 17 []) [] []) : Go Try.prog CKF ret rp eb R .nrm (rgK Try.prog CKF 10 []) [] [] :=
  leaf_cut (rgK Try.prog CKF 17 []) [] [] calNone true 2000 [hC 14 4 (putg ⟨0, cmd0, 0, 0, msg0⟩ (.deep []) (.deep []) (fun _ => by kernel_rfl) (fun _ => by kernel_rfl) ⟨by decide +kernel, by decide +kernel, by decide +kernel, by decide +kernel, by decide +kernel⟩ (e := 140) (by kernel_rfl) (bs := []) (by kernel_rfl)),
    hC 14 4 (putg ⟨4, cmd0, 0, 0, msg0⟩ (.deep []) (.deep []) (fun _ => by kernel_rfl) (fun _ => by kernel_rfl) ⟨by decide +kernel, by decide +kernel, by decide +kernel, by decide +kernel, by decide +kernel⟩ (e := 140) (by kernel_rfl) (bs := []) (by kernel_rfl)),
    hC 14 4 (putg ⟨3, cmd0, 0, 0, ⟨1, ⟨0, 0⟩, 0, ⟨0, 0, 0⟩, 0, 0, 0, 0, 0⟩⟩ (.deep []) (.deep []) (fun _ => by kernel_rfl) (fun _ => by kernel_rfl) ⟨by decide +kernel, by decide +kernel, by decide +kernel, by decide +kernel, by decide +kernel⟩ (e := 140) (by kernel_rfl) (bs := []) (by kernel_rfl)),
    hC 14 4 (putg ⟨3, ⟨0, ⟨0, 0⟩, 0, (ByteArray.mk #[97]), [], 0, [], 0, 0⟩, 0, 0, msg0⟩ (.deep []) (.deep []) (fun _ => by kernel_rfl) (fun _ => by kernel_rfl) ⟨by decide +kernel, by decide +kernel, by decide +kernel, by decide +kernel, by decide +kernel⟩ (e := 140) (by kernel_rfl) (bs := []) (by kernel_rfl)),
    hC 14 4 (putg ⟨2, ⟨0, ⟨0, 0⟩, 1, ByteArray.empty, [], 0, [], 0, 0⟩, 0, 0, msg0⟩ (.deep []) (.deep []) (fun _ => by kernel_rfl) (fun _ => by kernel_rfl) ⟨by decide +kernel, by decide +kernel, by decide +kernel, by decide +kernel, by decide +kernel⟩ (e := 140) (by kernel_rfl) (bs := []) (by kernel_rfl)),
    hC 14 4 (putg ⟨1, cmd0, 1, 0, msg0⟩ (.deep []) (.deep []) (fun _ => by kernel_rfl) (fun _ => by kernel_rfl) ⟨by decide +kernel, by decide +kernel, by decide +kernel, by decide +kernel, by decide +kernel⟩ (e := 140) (by kernel_rfl) (bs := []) (by kernel_rfl)),
    hC 14 4 (putg ⟨1, cmd0, 0, 1, msg0⟩ (.deep []) (.deep []) (fun _ => by kernel_rfl) (fun _ => by kernel_rfl) ⟨by decide +kernel, by decide +kernel, by decide +kernel, by decide +kernel, by decide +kernel⟩ (e := 140) (by kernel_rfl) (bs := []) (by kernel_rfl)),
    hC 14 4 (putg ⟨1, cmd0, 0, 0, ⟨0, ⟨0, 0⟩, 0, ⟨0, 0, 0⟩, 0, 0, 0, 0, 1⟩⟩ (.deep []) (.deep []) (fun _ => by kernel_rfl) (fun _ => by kernel_rfl) ⟨by decide +kernel, by decide +kernel, by decide +kernel, by decide +kernel, by decide +kernel⟩ (e := 140) (by kernel_rfl) (bs := []) (by kernel_rfl)),
    hC 14 4 (putg ⟨3, ⟨0, ⟨0, 0⟩, 0, ByteArray.empty, [⟨0, 0, 0⟩], 0, [], 0, 0⟩, 0, 0, msg0⟩ (.deep [.val (.int .u8 0), .val (.int .u16 0), .val (.int .u32 0)]) (.deep []) (fun _ => by kernel_rfl) (fun _ => by kernel_rfl) ⟨by decide +kernel, by decide +kernel, by decide +kernel, by decide +kernel, by decide +kernel⟩ (e := 140) (by kernel_rfl) (bs := []) (by kernel_rfl)), .stop 17] calNone_ok (by kernel_rfl) h
set_option maxRecDepth 100000 in
theorem known_3 {ret : SV} {rp : Heap} {eb : Env} {R : List Chunk} (h : Go Try.prog CKF ret rp eb R .nrm (rgK Try.prog CKF 25 []) [(13, .val (.string (ByteArray.mk #[48, 49, 50, 51, 52, 53, 54, 55, 56, 57, 48, 49, 50, 51, 52, 53, 54, 55, 56, 57, 48, 49, 50, 51, 52, 53, 54, 55, 56, 57, 48, 49, 50, 51])))] []) : Go Try.prog CKF ret rp eb R .nrm (rgK Try.prog CKF 17 []) [] [] :=
  leaf_cut (rgK Try.prog CKF 25 []) [(13, .val (.string (ByteArray.mk #[48, 49, 50, 51, 52, 53, 54, 55, 56, 57, 48, 49, 50, 51, 52, 53, 54, 55, 56, 57, 48, 49, 50, 51, 52, 53, 54, 55, 56, 57, 48, 49, 50, 51])))] [] calNone true 2000 [hC 22 6 (putg ⟨1, ⟨0, ⟨0, 0⟩, 0, (ByteArray.mk #[48, 49, 50, 51, 52, 53, 54, 55, 56, 57, 48, 49, 50, 51, 52, 53, 54, 55, 56, 57, 48, 49, 50, 51, 52, 53, 54, 55, 56, 57, 48, 49, 50]), [], 0, [], 0, 0⟩, 0, 0, msg0⟩ (.deep []) (.deep []) (fun _ => by kernel_rfl) (fun _ => by kernel_rfl) ⟨by decide +kernel, by decide +kernel, by decide +kernel, by decide +kernel, by decide +kernel⟩ (e := 2) (by kernel_rfl) (bs := []) (by kernel_rfl)),
    hC 22 6 (putg ⟨1, ⟨0, ⟨0, 0⟩, 0, ByteArray.empty, [⟨0, 0, 0⟩, ⟨0, 0, 0⟩, ⟨0, 0, 0⟩, ⟨0, 0, 0⟩, ⟨0, 0, 0⟩], 0, [], 0, 0⟩, 0, 0, msg0⟩ (.deep [.val (.int .u8 0), .val (.int .u16 0), .val (.int .u32 0), .val (.int .u8 0), .val (.int .u16 0), .val (.int .u32 0), .val (.int .u8 0), .val (.int .u16 0), .val (.int .u32 0), .val (.int .u8 0), .val (.int .u16 0), .val (.int .u32 0), .val (.int .u8 0), .val (.int .u16 0), .val (.int .u32 0)]) (.deep []) (fun _ => by kernel_rfl) (fun _ => by kernel_rfl) ⟨by decide +kernel, by decide +kernel, by decide +kernel, by decide +kernel, by decide +kernel⟩ (e := 2) (by kernel_rfl) (bs := []) (by kernel_rfl)),
    hC 22 6 (putg ⟨1, ⟨0, ⟨0, 0⟩, 0, ByteArray.empty, [], 0, [⟨ByteArray.empty, 0⟩, ⟨ByteArray.empty, 0⟩, ⟨ByteArray.empty, 0⟩, ⟨ByteArray.empty, 0⟩, ⟨ByteArray.empty, 0⟩], 0, 0⟩, 0, 0, msg0⟩ (.deep []) (.deep [.val (.string ByteArray.empty), .val (.int .i64 0), .val (.string ByteArray.empty), .val (.int .i64 0), .val (.string ByteArray.empty), .val (.int .i64 0), .val (.string ByteArray.empty), .val (.int .i64 0), .val (.string ByteArray.empty), .val (.int .i64 0)]) (fun _ => by kernel_rfl) (fun _ => by kernel_rfl) ⟨by decide +kernel, by decide +kernel, by decide +kernel, by decide +kernel, by decide +kernel⟩ (e := 2) (by kernel_rfl) (bs := []) (by kernel_rfl)),
    hC 22 6 (putg ⟨1, ⟨0, ⟨0, 0⟩, 0, ByteArray.empty, [], 0, [⟨ByteArray.empty, 0⟩, ⟨(ByteArray.mk #[48, 49, 50, 51, 52, 53, 54, 55, 56, 57, 48, 49, 50, 51, 52, 53, 54, 55, 56, 57, 48, 49, 50, 51, 52, 53, 54, 55, 56, 57, 48, 49, 50]), 0⟩], 0, 0⟩, 0, 0, msg0⟩ (.deep []) (.deep [.val (.string ByteArray.empty), .val (.int .i64 0), .val (.string (ByteArray.mk #[48, 49, 50, 51, 52, 53, 54, 55, 56, 57, 48, 49, 50, 51, 52, 53, 54, 55, 56, 57, 48, 49, 50, 51, 52, 53, 54, 55, 56, 57, 48, 49, 50])), .val (.int .i64 0)]) (fun _ => by kernel_rfl) (fun _ => by kernel_rfl) ⟨by decide +kernel, by decide +kernel, by decide +kernel, by decide +kernel, by decide +kernel⟩ (e := 2) (by kernel_rfl) (bs := []) (by kernel_rfl)), .stop 25] calNone_ok (by kernel_rfl) h
set_option maxRecDepth 100000 in
theorem known_4 {eb : Env} {R : List Chunk} : Go Try.prog CKF (.val (.bool true)) [] eb R .nrm (rgK Try.prog CKF 25 []) [(13, .val (.string (ByteArray.mk #[48, 49, 50, 51, 52, 53, 54, 55, 56, 57, 48, 49, 50, 51, 52, 53, 54, 55, 56, 57, 48, 49, 50, 51, 52, 53, 54, 55, 56, 57, 48, 49, 50, 51])))] [] :=
  leaf_end calNone true 2000 [hC 25 7 (putg kR3 (.deep [.val (.int .u8 0), .val (.int .u16 0), .val (.int .u32 0), .val (.int .u8 0), .val (.int .u16 0), .val (.int .u32 0), .val (.int .u8 0), .val (.int .u16 0), .val (.int .u32 0), .val (.int .u8 0), .val (.int .u16 0), .val (.int .u32 0)]) (.deep [.val (.string ByteArray.empty), .val (.int .i64 0), .val (.string ByteArray.empty), .val (.int .i64 0), .val (.string ByteArray.empty), .val (.int .i64 0), .val (.string ByteArray.empty), .val (.int .i64 0)]) (fun _ => by kernel_rfl) (fun _ => by kernel_rfl) ⟨by decide +kernel, by decide +kernel, by decide +kernel, by decide +kernel, by decide +kernel⟩ (e := 0) (by kernel_rfl) (bs := kB3) (by kernel_rfl)), hC 26 1 (getg kB3 (uD kB3) (uD_den _) (by decide +kernel) (by decide) (r := kR3) (by kernel_rfl) (e := 0) (by kernel_rfl)), hC 29 1 (getg (kB3.set 20 33) (uD (kB3.set 20 33)) (uD_den _) (by decide +kernel) (by decide) (r := rec0) (by kernel_rfl) (e := 140) (by kernel_rfl)),
    hC 34 5 (getg [] (.shal (byteCells (ByteArray.mk #[]))) (fun _ => by kernel_rfl) (by decide +kernel) (by decide) (r := rec0) (by kernel_rfl) (e := 140) (by kernel_rfl)),
    hC 34 5 (getg [4] (.shal (byteCells (ByteArray.mk #[4]))) (fun _ => by kernel_rfl) (by decide +kernel) (by decide) (r := rec0) (by kernel_rfl) (e := 140) (by kernel_rfl)),
    hC 34 5 (getg [0] (.shal (byteCells (ByteArray.mk #[0]))) (fun _ => by kernel_rfl) (by decide +kernel) (by decide) (r := rec0) (by kernel_rfl) (e := 140) (by kernel_rfl)),
    hC 34 5 (getg [3] (.shal (byteCells (ByteArray.mk #[3]))) (fun _ => by kernel_rfl) (by decide +kernel) (by decide) (r := rec0) (by kernel_rfl) (e := 140) (by kernel_rfl)),
    hC 34 5 (getg [3, 2, 0, 0, 0, 0, 0, 0, 1, 2, 0] (.shal (byteCells (ByteArray.mk #[3, 2, 0, 0, 0, 0, 0, 0, 1, 2, 0]))) (fun _ => by kernel_rfl) (by decide +kernel) (by decide) (r := rec0) (by kernel_rfl) (e := 140) (by kernel_rfl)),
    hC 34 5 (getg [3, 2, 0, 0, 0, 0, 0, 0, 1] (.shal (byteCells (ByteArray.mk #[3, 2, 0, 0, 0, 0, 0, 0, 1]))) (fun _ => by kernel_rfl) (by decide +kernel) (by decide) (r := rec0) (by kernel_rfl) (e := 140) (by kernel_rfl)), hC 37 11 puts_ok] calNone_ok (by kernel_rfl)
set_option maxRecDepth 100000 in
theorem known_ok : CallOK Try.prog CKF [] [] [] (.val (.bool true)) [] := callOK_intro (by kernel_rfl) fun eb R => known_1 (known_2 (known_3 known_4))
theorem known_any (w : World) : Calls Try.prog CKF #[] w fun e w' => e = .returned (.bool true) ∧ Below w.heap.size w w' :=
  (known_ok (fun _ _ => (0, undef)) [oldC w] w (Mem.old w)).mono fun e w' ⟨x, h, hm⟩ => ⟨h, (show Mem (oldC w :: []) w' from hm).below 0 rfl⟩
end Go.Proofs.Ytfcjmpgbohgoeaa
