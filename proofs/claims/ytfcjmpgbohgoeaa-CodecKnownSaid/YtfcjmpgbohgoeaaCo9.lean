/- CODEC: commands, messages, records. -/
import Derived.Test.YtfcjmpgbohgoeaaCo8
namespace Go.Proofs.Ytfcjmpgbohgoeaa
open Go.RowKit Go.Lib Go.Tk Go.Shelf Go.Vc
set_option linter.unusedVariables false
set_option linter.unusedSimpArgs false
attribute [-go_sem] loadCellsFrom
structure CmdV where
 kind : Int
 tick : TickV
 at_ : Int
 name : ByteArray
 legs : List LegV
 fare : Int
 taxes : List TaxV
 penalty : Int
 amount : Int
structure MsgV where
 kind : Int
 tick : TickV
 at_ : Int
 leg : LegV
 value : Int
 status : Int
 nonce : Int
 amount : Int
 code : Int
structure RecV where
 kind : Int
 cmd : CmdV
 frm : Int
 number : Int
 msg : MsgV
def recCells (r : RecV) (vl vt : Value) : Array Value := #[.int .u8 r.kind, .int .u8 r.cmd.kind, .int .u8 r.cmd.tick.c, .int .u64 r.cmd.tick.r, .int .u8 r.cmd.at_, .string r.cmd.name, vl, .int .i64 r.cmd.fare, vt, .int .i64 r.cmd.penalty, .int .i64 r.cmd.amount, .int .u8 r.frm, .int .u64 r.number, .int .u8 r.msg.kind, .int .u8 r.msg.tick.c, .int .u64 r.msg.tick.r, .int .u8 r.msg.at_, .int .u8 r.msg.leg.c, .int .u16 r.msg.leg.f, .int .u32 r.msg.leg.x, .int .i64 r.msg.value, .int .u8 r.msg.status, .int .u32 r.msg.nonce, .int .i64 r.msg.amount, .int .i64 r.msg.code]
theorem tickF_len (m : Md) (σ : WS) (t : TickV) : (tickF m σ t).2.bs.length ≤ σ.bs.length + 9 := by
 have h1 := fld_len .u8 m σ t.c 1
 have h2 := num_len m (fld .u8 m σ t.c 1).2 t.r 8
 show (num m (fld .u8 m σ t.c 1).2 t.r 8).2.bs.length ≤ _
 omega
theorem listT_len (m : Md) (σ : WS) (xs : List TaxV) (hn : LoN m xs.length) (h : ∀ x ∈ xs, LoT m x.code) : (listF (taxF m) ⟨ByteArray.empty, 0⟩ m σ xs 4).2.bs.length ≤ σ.bs.length + 165 := by
 unfold listF
 have h1 := listN_len m σ xs.length 4
 have h2 := listN_most m σ xs.length 4
 have h3 := hn.ok σ
 refine Nat.le_trans (eachL_len (K := 41) (ok := fun x => LoT m x.code) (fun σ x hx => taxF_len m σ x (hx.ok σ).1) _ _ (fun x hx => ?_)) ?_
 ·
  rcases List.mem_append.1 hx with h4 | h4
  · exact h x h4
  · rw [(List.mem_replicate.1 h4).2]; exact LoT.nil m
 ·
  rw [List.length_append, List.length_replicate, show xs.length + ((listN m σ xs.length 4).1 - xs.length) = (listN m σ xs.length 4).1 from by omega]
  omega
structure CmdOk (m : Md) (c : CmdV) : Prop where
 r : 0 ≤ c.tick.r ∧ c.tick.r ≤ 18446744073709551615
 name : LoT m c.name
 legs : LoN m c.legs.length
 taxes : LoN m c.taxes.length
 codes : ∀ t ∈ c.taxes, LoT m t.code
def cd1 (m : Md) (σ : WS) (c : CmdV) := fld .u8 m σ c.kind 1
def cd2 (m : Md) (σ : WS) (c : CmdV) := tickF m (cd1 m σ c).2 c.tick
def cd3 (m : Md) (σ : WS) (c : CmdV) := fld .u8 m (cd2 m σ c).2 c.at_ 1
def cd4 (m : Md) (σ : WS) (c : CmdV) := fld .i64 m (cd3 m σ c).2 c.amount 8
def cd5 (m : Md) (σ : WS) (c : CmdV) := textF m (cd4 m σ c).2 c.name
def cd6 (m : Md) (σ : WS) (c : CmdV) := (listF (legF m) ⟨0, 0, 0⟩ m (cd5 m σ c).2 c.legs 4)
def cd7 (m : Md) (σ : WS) (c : CmdV) := fld .i64 m (cd6 m σ c).2 c.fare 8
def cd8 (m : Md) (σ : WS) (c : CmdV) := (listF (taxF m) ⟨ByteArray.empty, 0⟩ m (cd7 m σ c).2 c.taxes 4)
def cd9 (m : Md) (σ : WS) (c : CmdV) := fld .i64 m (cd8 m σ c).2 c.penalty 8
def cmdF (m : Md) (σ : WS) (c : CmdV) : CmdV × WS := (⟨(cd1 m σ c).1, (cd2 m σ c).1, (cd3 m σ c).1, (cd5 m σ c).1, (cd6 m σ c).1, (cd7 m σ c).1, (cd8 m σ c).1, (cd9 m σ c).1, (cd4 m σ c).1⟩, (cd9 m σ c).2)
set_option maxRecDepth 100000 in
set_option maxHeartbeats 8000000 in
theorem command_at (m : Md) (pw : Nat) (σ : WS) (b : Nat) (r : RecV) (vl vt : Value) (R : List Chunk) (w : World) (hM : Mem (walkC m pw σ :: boxC b (recCells r vl vt) :: rowC 36 3 vl r.cmd.legs.length (cellsL legE r.cmd.legs) :: rowC 58 2 vt r.cmd.taxes.length (cellsL taxE r.cmd.taxes) :: R) w) (hok : CmdOk m r.cmd) (hb : σ.bs.length ≤ 900000) :
  Calls Try.prog 41 #[.pointer (some ⟨pw, 0, none⟩), .pointer (some ⟨b, 1, none⟩)] w fun e w' => ∃ vl' vt', e = .returned (.tuple #[]) ∧ Mem (walkC m pw (cmdF m σ r.cmd).2 :: boxC b (recCells { r with cmd := (cmdF m σ r.cmd).1 } vl' vt') :: rowC 36 3 vl' { r with cmd := (cmdF m σ r.cmd).1 }.cmd.legs.length (cellsL legE { r with cmd := (cmdF m σ r.cmd).1 }.cmd.legs) :: rowC 58 2 vt' { r with cmd := (cmdF m σ r.cmd).1 }.cmd.taxes.length (cellsL taxE { r with cmd := (cmdF m σ r.cmd).1 }.cmd.taxes) :: R) w' := by
 obtain ⟨rk, c, rf, rn, rm⟩ := r
 replace hok : CmdOk m c := hok
 have h1 : (cd1 m σ c).2.bs.length ≤ σ.bs.length + 1 := fld_len .u8 m σ c.kind 1
 have h2 : (cd2 m σ c).2.bs.length ≤ (cd1 m σ c).2.bs.length + 9 := tickF_len m (cd1 m σ c).2 c.tick
 have h3 : (cd3 m σ c).2.bs.length ≤ (cd2 m σ c).2.bs.length + 1 := fld_len .u8 m (cd2 m σ c).2 c.at_ 1
 have h4 : (cd4 m σ c).2.bs.length ≤ (cd3 m σ c).2.bs.length + 8 := fld_len .i64 m (cd3 m σ c).2 c.amount 8
 have h5 : (cd5 m σ c).2.bs.length ≤ (cd4 m σ c).2.bs.length + 33 := textF_len m (cd4 m σ c).2 c.name (hok.name.ok _).1
 have h6 : (cd6 m σ c).2.bs.length ≤ (cd5 m σ c).2.bs.length + 29 := listF_len (z := (⟨0, 0, 0⟩ : LegV)) (legF_len m) m (cd5 m σ c).2 c.legs 4 (hok.legs.ok _)
 have h7 : (cd7 m σ c).2.bs.length ≤ (cd6 m σ c).2.bs.length + 8 := fld_len .i64 m (cd6 m σ c).2 c.fare 8
 have h8 : (cd8 m σ c).2.bs.length ≤ (cd7 m σ c).2.bs.length + 165 := listT_len m (cd7 m σ c).2 c.taxes hok.taxes hok.codes
 have h9 : (cd9 m σ c).2.bs.length ≤ (cd8 m σ c).2.bs.length + 8 := fld_len .i64 m (cd8 m σ c).2 c.penalty 8
 refine enter Try.func41 rfl Try.ntmps41 (Nat.le_of_ble_eq_true rfl) ?_
 intro a0 hz0 hd0 hg0
 have g0_0 : a0.tmps[0]? = some (.pointer (some ⟨pw, 0, none⟩)) := hg0 0 _ rfl
 have g1_0 : a0.tmps[1]? = some (.pointer (some ⟨b, 1, none⟩)) := hg0 1 _ rfl
 clear hg0
 have hM0 : Mem (walkC m pw σ :: boxC b #[.int .u8 rk, .int .u8 c.kind, .int .u8 c.tick.c, .int .u64 c.tick.r, .int .u8 c.at_, .string c.name, vl, .int .i64 c.fare, vt, .int .i64 c.penalty, .int .i64 c.amount, .int .u8 rf, .int .u64 rn, .int .u8 rm.kind, .int .u8 rm.tick.c, .int .u64 rm.tick.r, .int .u8 rm.at_, .int .u8 rm.leg.c, .int .u16 rm.leg.f, .int .u32 rm.leg.x, .int .i64 rm.value, .int .u8 rm.status, .int .u32 rm.nonce, .int .i64 rm.amount, .int .i64 rm.code] :: rowC 36 3 vl c.legs.length (cellsL legE c.legs) :: rowC 58 2 vt c.taxes.length (cellsL taxE c.taxes) :: R) _ := hM
 refine wp_seq ?_
 refine region_seq 58 (fun zz e => (#[.pointer (some ⟨pw, 0, none⟩), .pointer (some ⟨b, 1, none⟩), .pointer (some ⟨b, 1, none⟩), .pointer (some ⟨b, 1, none⟩), .tuple #[]] : Array Value).getD zz undef) (fun k e w => Mem (List.getD [walkC m pw σ :: boxC b #[.int .u8 rk, .int .u8 c.kind, .int .u8 c.tick.c, .int .u64 c.tick.r, .int .u8 c.at_, .string c.name, vl, .int .i64 c.fare, vt, .int .i64 c.penalty, .int .i64 c.amount, .int .u8 rf, .int .u64 rn, .int .u8 rm.kind, .int .u8 rm.tick.c, .int .u64 rm.tick.r, .int .u8 rm.at_, .int .u8 rm.leg.c, .int .u16 rm.leg.f, .int .u32 rm.leg.x, .int .i64 rm.value, .int .u8 rm.status, .int .u32 rm.nonce, .int .i64 rm.amount, .int .i64 rm.code] :: rowC 36 3 vl c.legs.length (cellsL legE c.legs) :: rowC 58 2 vt c.taxes.length (cellsL taxE c.taxes) :: R, walkC m pw (cd1 m σ c).2 :: boxC b #[.int .u8 rk, .int .u8 ((cd1 m σ c).1), .int .u8 c.tick.c, .int .u64 c.tick.r, .int .u8 c.at_, .string c.name, vl, .int .i64 c.fare, vt, .int .i64 c.penalty, .int .i64 c.amount, .int .u8 rf, .int .u64 rn, .int .u8 rm.kind, .int .u8 rm.tick.c, .int .u64 rm.tick.r, .int .u8 rm.at_, .int .u8 rm.leg.c, .int .u16 rm.leg.f, .int .u32 rm.leg.x, .int .i64 rm.value, .int .u8 rm.status, .int .u32 rm.nonce, .int .i64 rm.amount, .int .i64 rm.code] :: rowC 36 3 vl c.legs.length (cellsL legE c.legs) :: rowC 58 2 vt c.taxes.length (cellsL taxE c.taxes) :: R] k []) w) (fun _ => (0, undef)) [4] [0, 0, 0, 0, 0] (fun _ _ => false) hz0 (by kernel_rfl) (by kernel_rfl) (by kernel_rfl) ?_ (show Mem _ _ from hM0) ?_ ?_
 · exact ⟨fun _ _ _ => rfl, fun _ _ _ => rfl, fun _ _ _ => rfl, fun _ _ _ => rfl, fun _ _ _ => rfl, trivial⟩
 ·
  refine ⟨?_, ?_, ?_, ?_, ?_, trivial⟩
  · exact op2 (a := 0) rfl fun e w ρ (hM : Mem _ w) E => res_ok (x_move rfl (E.o 0 _ rfl g0_0)) (goes_still rfl rfl hM)
  · exact op2 (a := 0) rfl fun e w ρ (hM : Mem _ w) E => res_ok (x_move rfl (E.o 1 _ rfl g1_0)) (goes_still rfl rfl hM)
  · exact op2 (a := 0) rfl fun e w ρ (hM : Mem _ w) E => res_ok (x_nil rfl (E.d 1 _ 5 rfl rfl rfl)) (goes_still rfl rfl hM)
  · exact op2 (a := 0) rfl fun e w ρ (hM : Mem _ w) E => res_ok (x_fieldAddr (off := 0) rfl (E.d 2 _ 6 rfl rfl rfl) (by kernel_rfl) rfl) (goes_still rfl rfl hM)
  ·
   refine op2 (a := 0) rfl fun e w ρ (hM : Mem _ w) E => ?_
   have e4 : ρ (.tmp 4) = .pointer (some ⟨pw, 0, none⟩) := E.d 0 _ 4 rfl rfl rfl
   have e7 : ρ (.tmp 7) = .pointer (some ⟨b, 1, none⟩) := E.d 3 _ 7 rfl rfl rfl
   refine res_in (x_call (args := #[.pointer (some ⟨pw, 0, none⟩), .pointer (some ⟨b, 1, none⟩), .int .i64 1]) rfl rfl (E.f _) (by simp [e4, e7, E.c]) (by kernel_rfl)) ?_
   refine (seg_uint8 m pw σ none b 1 #[.int .u8 rk, .int .u8 c.kind, .int .u8 c.tick.c, .int .u64 c.tick.r, .int .u8 c.at_, .string c.name, vl, .int .i64 c.fare, vt, .int .i64 c.penalty, .int .i64 c.amount, .int .u8 rf, .int .u64 rn, .int .u8 rm.kind, .int .u8 rm.tick.c, .int .u64 rm.tick.r, .int .u8 rm.at_, .int .u8 rm.leg.c, .int .u16 rm.leg.f, .int .u32 rm.leg.x, .int .i64 rm.value, .int .u8 rm.status, .int .u32 rm.nonce, .int .i64 rm.amount, .int .i64 rm.code] c.kind 1 _ _ ((hM.front 1 rfl).front 1 rfl) ⟨Nat.le_of_ble_eq_true rfl, rfl⟩ (by decide) (by omega)).mono ?_
   rintro e' w' ⟨rfl, hm⟩
   exact ⟨_, rfl, goes_tick rfl (0, undef) rfl hm⟩
 ·
  intro e a1 w1 hz1 hd hG hO hM
  have hd1 := hd.trans hd0
  have g0_1 := (hO 0 rfl).trans g0_0
  have g1_1 := (hO 1 rfl).trans g1_0
  have hM1 : Mem (walkC m pw (cd1 m σ c).2 :: boxC b #[.int .u8 rk, .int .u8 ((cd1 m σ c).1), .int .u8 c.tick.c, .int .u64 c.tick.r, .int .u8 c.at_, .string c.name, vl, .int .i64 c.fare, vt, .int .i64 c.penalty, .int .i64 c.amount, .int .u8 rf, .int .u64 rn, .int .u8 rm.kind, .int .u8 rm.tick.c, .int .u64 rm.tick.r, .int .u8 rm.at_, .int .u8 rm.leg.c, .int .u16 rm.leg.f, .int .u32 rm.leg.x, .int .i64 rm.value, .int .u8 rm.status, .int .u32 rm.nonce, .int .i64 rm.amount, .int .i64 rm.code] :: rowC 36 3 vl c.legs.length (cellsL legE c.legs) :: rowC 58 2 vt c.taxes.length (cellsL taxE c.taxes) :: R) w1 := hM
  clear hM hG hO hd
  clear hz0 hd0 hM0 g0_0 g1_0
  refine then_n ?_
  refine wp_seq ?_
  refine region_seq 58 (fun zz e => (#[.pointer (some ⟨pw, 0, none⟩), .pointer (some ⟨b, 1, none⟩), .pointer (some ⟨b, 1, none⟩), .pointer (some ⟨b, 2, none⟩), .tuple #[]] : Array Value).getD zz undef) (fun k e w => Mem (List.getD [walkC m pw (cd1 m σ c).2 :: boxC b #[.int .u8 rk, .int .u8 ((cd1 m σ c).1), .int .u8 c.tick.c, .int .u64 c.tick.r, .int .u8 c.at_, .string c.name, vl, .int .i64 c.fare, vt, .int .i64 c.penalty, .int .i64 c.amount, .int .u8 rf, .int .u64 rn, .int .u8 rm.kind, .int .u8 rm.tick.c, .int .u64 rm.tick.r, .int .u8 rm.at_, .int .u8 rm.leg.c, .int .u16 rm.leg.f, .int .u32 rm.leg.x, .int .i64 rm.value, .int .u8 rm.status, .int .u32 rm.nonce, .int .i64 rm.amount, .int .i64 rm.code] :: rowC 36 3 vl c.legs.length (cellsL legE c.legs) :: rowC 58 2 vt c.taxes.length (cellsL taxE c.taxes) :: R, walkC m pw (cd2 m σ c).2 :: boxC b #[.int .u8 rk, .int .u8 ((cd1 m σ c).1), .int .u8 ((cd2 m σ c).1.c), .int .u64 ((cd2 m σ c).1.r), .int .u8 c.at_, .string c.name, vl, .int .i64 c.fare, vt, .int .i64 c.penalty, .int .i64 c.amount, .int .u8 rf, .int .u64 rn, .int .u8 rm.kind, .int .u8 rm.tick.c, .int .u64 rm.tick.r, .int .u8 rm.at_, .int .u8 rm.leg.c, .int .u16 rm.leg.f, .int .u32 rm.leg.x, .int .i64 rm.value, .int .u8 rm.status, .int .u32 rm.nonce, .int .i64 rm.amount, .int .i64 rm.code] :: rowC 36 3 vl c.legs.length (cellsL legE c.legs) :: rowC 58 2 vt c.taxes.length (cellsL taxE c.taxes) :: R] k []) w) (fun _ => (0, undef)) [4] [0, 0, 0, 0, 0] (fun _ _ => false) hz1 (by kernel_rfl) (by kernel_rfl) (by kernel_rfl) ?_ (show Mem _ _ from hM1) ?_ ?_
  · exact ⟨fun _ _ _ => rfl, fun _ _ _ => rfl, fun _ _ _ => rfl, fun _ _ _ => rfl, fun _ _ _ => rfl, trivial⟩
  ·
   refine ⟨?_, ?_, ?_, ?_, ?_, trivial⟩
   · exact op2 (a := 0) rfl fun e w ρ (hM : Mem _ w) E => res_ok (x_move rfl (E.o 0 _ rfl g0_1)) (goes_still rfl rfl hM)
   · exact op2 (a := 0) rfl fun e w ρ (hM : Mem _ w) E => res_ok (x_move rfl (E.o 1 _ rfl g1_1)) (goes_still rfl rfl hM)
   · exact op2 (a := 0) rfl fun e w ρ (hM : Mem _ w) E => res_ok (x_nil rfl (E.d 1 _ 10 rfl rfl rfl)) (goes_still rfl rfl hM)
   · exact op2 (a := 0) rfl fun e w ρ (hM : Mem _ w) E => res_ok (x_fieldAddr (off := 1) rfl (E.d 2 _ 11 rfl rfl rfl) (by kernel_rfl) rfl) (goes_still rfl rfl hM)
   ·
    refine op2 (a := 0) rfl fun e w ρ (hM : Mem _ w) E => ?_
    have e9 : ρ (.tmp 9) = .pointer (some ⟨pw, 0, none⟩) := E.d 0 _ 9 rfl rfl rfl
    have e12 : ρ (.tmp 12) = .pointer (some ⟨b, 2, none⟩) := E.d 3 _ 12 rfl rfl rfl
    refine res_in (x_call (args := #[.pointer (some ⟨pw, 0, none⟩), .pointer (some ⟨b, 2, none⟩)]) rfl rfl (E.f _) (by simp [e12, e9]) (by kernel_rfl)) ?_
    refine (tick_at m pw (cd1 m σ c).2 none b 2 #[.int .u8 rk, .int .u8 ((cd1 m σ c).1), .int .u8 c.tick.c, .int .u64 c.tick.r, .int .u8 c.at_, .string c.name, vl, .int .i64 c.fare, vt, .int .i64 c.penalty, .int .i64 c.amount, .int .u8 rf, .int .u64 rn, .int .u8 rm.kind, .int .u8 rm.tick.c, .int .u64 rm.tick.r, .int .u8 rm.at_, .int .u8 rm.leg.c, .int .u16 rm.leg.f, .int .u32 rm.leg.x, .int .i64 rm.value, .int .u8 rm.status, .int .u32 rm.nonce, .int .i64 rm.amount, .int .i64 rm.code] c.tick _ _ ((hM.front 1 rfl).front 1 rfl) ⟨Nat.le_of_ble_eq_true rfl, rfl⟩ (by omega) hok.r).mono ?_
    rintro e' w' ⟨rfl, hm⟩
    exact ⟨_, rfl, goes_tick rfl (0, undef) rfl hm⟩
  ·
   intro e a2 w2 hz2 hd hG hO hM
   have hd2 := hd.trans hd1
   have g0_2 := (hO 0 rfl).trans g0_1
   have g1_2 := (hO 1 rfl).trans g1_1
   have hM2 : Mem (walkC m pw (cd2 m σ c).2 :: boxC b #[.int .u8 rk, .int .u8 ((cd1 m σ c).1), .int .u8 ((cd2 m σ c).1.c), .int .u64 ((cd2 m σ c).1.r), .int .u8 c.at_, .string c.name, vl, .int .i64 c.fare, vt, .int .i64 c.penalty, .int .i64 c.amount, .int .u8 rf, .int .u64 rn, .int .u8 rm.kind, .int .u8 rm.tick.c, .int .u64 rm.tick.r, .int .u8 rm.at_, .int .u8 rm.leg.c, .int .u16 rm.leg.f, .int .u32 rm.leg.x, .int .i64 rm.value, .int .u8 rm.status, .int .u32 rm.nonce, .int .i64 rm.amount, .int .i64 rm.code] :: rowC 36 3 vl c.legs.length (cellsL legE c.legs) :: rowC 58 2 vt c.taxes.length (cellsL taxE c.taxes) :: R) w2 := hM
   clear hM hG hO hd
   clear hz1 hd1 hM1 g0_1 g1_1
   refine then_n ?_
   refine wp_seq ?_
   refine region_seq 58 (fun zz e => (#[.pointer (some ⟨pw, 0, none⟩), .pointer (some ⟨b, 1, none⟩), .pointer (some ⟨b, 1, none⟩), .pointer (some ⟨b, 4, none⟩), .tuple #[]] : Array Value).getD zz undef) (fun k e w => Mem (List.getD [walkC m pw (cd2 m σ c).2 :: boxC b #[.int .u8 rk, .int .u8 ((cd1 m σ c).1), .int .u8 ((cd2 m σ c).1.c), .int .u64 ((cd2 m σ c).1.r), .int .u8 c.at_, .string c.name, vl, .int .i64 c.fare, vt, .int .i64 c.penalty, .int .i64 c.amount, .int .u8 rf, .int .u64 rn, .int .u8 rm.kind, .int .u8 rm.tick.c, .int .u64 rm.tick.r, .int .u8 rm.at_, .int .u8 rm.leg.c, .int .u16 rm.leg.f, .int .u32 rm.leg.x, .int .i64 rm.value, .int .u8 rm.status, .int .u32 rm.nonce, .int .i64 rm.amount, .int .i64 rm.code] :: rowC 36 3 vl c.legs.length (cellsL legE c.legs) :: rowC 58 2 vt c.taxes.length (cellsL taxE c.taxes) :: R, walkC m pw (cd3 m σ c).2 :: boxC b #[.int .u8 rk, .int .u8 ((cd1 m σ c).1), .int .u8 ((cd2 m σ c).1.c), .int .u64 ((cd2 m σ c).1.r), .int .u8 ((cd3 m σ c).1), .string c.name, vl, .int .i64 c.fare, vt, .int .i64 c.penalty, .int .i64 c.amount, .int .u8 rf, .int .u64 rn, .int .u8 rm.kind, .int .u8 rm.tick.c, .int .u64 rm.tick.r, .int .u8 rm.at_, .int .u8 rm.leg.c, .int .u16 rm.leg.f, .int .u32 rm.leg.x, .int .i64 rm.value, .int .u8 rm.status, .int .u32 rm.nonce, .int .i64 rm.amount, .int .i64 rm.code] :: rowC 36 3 vl c.legs.length (cellsL legE c.legs) :: rowC 58 2 vt c.taxes.length (cellsL taxE c.taxes) :: R] k []) w) (fun _ => (0, undef)) [4] [0, 0, 0, 0, 0] (fun _ _ => false) hz2 (by kernel_rfl) (by kernel_rfl) (by kernel_rfl) ?_ (show Mem _ _ from hM2) ?_ ?_
   · exact ⟨fun _ _ _ => rfl, fun _ _ _ => rfl, fun _ _ _ => rfl, fun _ _ _ => rfl, fun _ _ _ => rfl, trivial⟩
   ·
    refine ⟨?_, ?_, ?_, ?_, ?_, trivial⟩
    · exact op2 (a := 0) rfl fun e w ρ (hM : Mem _ w) E => res_ok (x_move rfl (E.o 0 _ rfl g0_2)) (goes_still rfl rfl hM)
    · exact op2 (a := 0) rfl fun e w ρ (hM : Mem _ w) E => res_ok (x_move rfl (E.o 1 _ rfl g1_2)) (goes_still rfl rfl hM)
    · exact op2 (a := 0) rfl fun e w ρ (hM : Mem _ w) E => res_ok (x_nil rfl (E.d 1 _ 15 rfl rfl rfl)) (goes_still rfl rfl hM)
    · exact op2 (a := 0) rfl fun e w ρ (hM : Mem _ w) E => res_ok (x_fieldAddr (off := 3) rfl (E.d 2 _ 16 rfl rfl rfl) (by kernel_rfl) rfl) (goes_still rfl rfl hM)
    ·
     refine op2 (a := 0) rfl fun e w ρ (hM : Mem _ w) E => ?_
     have e14 : ρ (.tmp 14) = .pointer (some ⟨pw, 0, none⟩) := E.d 0 _ 14 rfl rfl rfl
     have e17 : ρ (.tmp 17) = .pointer (some ⟨b, 4, none⟩) := E.d 3 _ 17 rfl rfl rfl
     refine res_in (x_call (args := #[.pointer (some ⟨pw, 0, none⟩), .pointer (some ⟨b, 4, none⟩), .int .i64 1]) rfl rfl (E.f _) (by simp [e14, e17, E.c]) (by kernel_rfl)) ?_
     refine (seg_uint8 m pw (cd2 m σ c).2 none b 4 #[.int .u8 rk, .int .u8 ((cd1 m σ c).1), .int .u8 ((cd2 m σ c).1.c), .int .u64 ((cd2 m σ c).1.r), .int .u8 c.at_, .string c.name, vl, .int .i64 c.fare, vt, .int .i64 c.penalty, .int .i64 c.amount, .int .u8 rf, .int .u64 rn, .int .u8 rm.kind, .int .u8 rm.tick.c, .int .u64 rm.tick.r, .int .u8 rm.at_, .int .u8 rm.leg.c, .int .u16 rm.leg.f, .int .u32 rm.leg.x, .int .i64 rm.value, .int .u8 rm.status, .int .u32 rm.nonce, .int .i64 rm.amount, .int .i64 rm.code] c.at_ 1 _ _ ((hM.front 1 rfl).front 1 rfl) ⟨Nat.le_of_ble_eq_true rfl, rfl⟩ (by decide) (by omega)).mono ?_
     rintro e' w' ⟨rfl, hm⟩
     exact ⟨_, rfl, goes_tick rfl (0, undef) rfl hm⟩
   ·
    intro e a3 w3 hz3 hd hG hO hM
    have hd3 := hd.trans hd2
    have g0_3 := (hO 0 rfl).trans g0_2
    have g1_3 := (hO 1 rfl).trans g1_2
    have hM3 : Mem (walkC m pw (cd3 m σ c).2 :: boxC b #[.int .u8 rk, .int .u8 ((cd1 m σ c).1), .int .u8 ((cd2 m σ c).1.c), .int .u64 ((cd2 m σ c).1.r), .int .u8 ((cd3 m σ c).1), .string c.name, vl, .int .i64 c.fare, vt, .int .i64 c.penalty, .int .i64 c.amount, .int .u8 rf, .int .u64 rn, .int .u8 rm.kind, .int .u8 rm.tick.c, .int .u64 rm.tick.r, .int .u8 rm.at_, .int .u8 rm.leg.c, .int .u16 rm.leg.f, .int .u32 rm.leg.x, .int .i64 rm.value, .int .u8 rm.status, .int .u32 rm.nonce, .int .i64 rm.amount, .int .i64 rm.code] :: rowC 36 3 vl c.legs.length (cellsL legE c.legs) :: rowC 58 2 vt c.taxes.length (cellsL taxE c.taxes) :: R) w3 := hM
    clear hM hG hO hd
    clear hz2 hd2 hM2 g0_2 g1_2
    refine then_n ?_
    refine wp_seq ?_
    refine region_seq 58 (fun zz e => (#[.pointer (some ⟨pw, 0, none⟩), .pointer (some ⟨b, 1, none⟩), .pointer (some ⟨b, 1, none⟩), .pointer (some ⟨b, 10, none⟩), .tuple #[]] : Array Value).getD zz undef) (fun k e w => Mem (List.getD [walkC m pw (cd3 m σ c).2 :: boxC b #[.int .u8 rk, .int .u8 ((cd1 m σ c).1), .int .u8 ((cd2 m σ c).1.c), .int .u64 ((cd2 m σ c).1.r), .int .u8 ((cd3 m σ c).1), .string c.name, vl, .int .i64 c.fare, vt, .int .i64 c.penalty, .int .i64 c.amount, .int .u8 rf, .int .u64 rn, .int .u8 rm.kind, .int .u8 rm.tick.c, .int .u64 rm.tick.r, .int .u8 rm.at_, .int .u8 rm.leg.c, .int .u16 rm.leg.f, .int .u32 rm.leg.x, .int .i64 rm.value, .int .u8 rm.status, .int .u32 rm.nonce, .int .i64 rm.amount, .int .i64 rm.code] :: rowC 36 3 vl c.legs.length (cellsL legE c.legs) :: rowC 58 2 vt c.taxes.length (cellsL taxE c.taxes) :: R, walkC m pw (cd4 m σ c).2 :: boxC b #[.int .u8 rk, .int .u8 ((cd1 m σ c).1), .int .u8 ((cd2 m σ c).1.c), .int .u64 ((cd2 m σ c).1.r), .int .u8 ((cd3 m σ c).1), .string c.name, vl, .int .i64 c.fare, vt, .int .i64 c.penalty, .int .i64 ((cd4 m σ c).1), .int .u8 rf, .int .u64 rn, .int .u8 rm.kind, .int .u8 rm.tick.c, .int .u64 rm.tick.r, .int .u8 rm.at_, .int .u8 rm.leg.c, .int .u16 rm.leg.f, .int .u32 rm.leg.x, .int .i64 rm.value, .int .u8 rm.status, .int .u32 rm.nonce, .int .i64 rm.amount, .int .i64 rm.code] :: rowC 36 3 vl c.legs.length (cellsL legE c.legs) :: rowC 58 2 vt c.taxes.length (cellsL taxE c.taxes) :: R] k []) w) (fun _ => (0, undef)) [4] [0, 0, 0, 0, 0] (fun _ _ => false) hz3 (by kernel_rfl) (by kernel_rfl) (by kernel_rfl) ?_ (show Mem _ _ from hM3) ?_ ?_
    · exact ⟨fun _ _ _ => rfl, fun _ _ _ => rfl, fun _ _ _ => rfl, fun _ _ _ => rfl, fun _ _ _ => rfl, trivial⟩
    ·
     refine ⟨?_, ?_, ?_, ?_, ?_, trivial⟩
     · exact op2 (a := 0) rfl fun e w ρ (hM : Mem _ w) E => res_ok (x_move rfl (E.o 0 _ rfl g0_3)) (goes_still rfl rfl hM)
     · exact op2 (a := 0) rfl fun e w ρ (hM : Mem _ w) E => res_ok (x_move rfl (E.o 1 _ rfl g1_3)) (goes_still rfl rfl hM)
     · exact op2 (a := 0) rfl fun e w ρ (hM : Mem _ w) E => res_ok (x_nil rfl (E.d 1 _ 20 rfl rfl rfl)) (goes_still rfl rfl hM)
     · exact op2 (a := 0) rfl fun e w ρ (hM : Mem _ w) E => res_ok (x_fieldAddr (off := 9) rfl (E.d 2 _ 21 rfl rfl rfl) (by kernel_rfl) rfl) (goes_still rfl rfl hM)
     ·
      refine op2 (a := 0) rfl fun e w ρ (hM : Mem _ w) E => ?_
      have e19 : ρ (.tmp 19) = .pointer (some ⟨pw, 0, none⟩) := E.d 0 _ 19 rfl rfl rfl
      have e22 : ρ (.tmp 22) = .pointer (some ⟨b, 10, none⟩) := E.d 3 _ 22 rfl rfl rfl
      refine res_in (x_call (args := #[.pointer (some ⟨pw, 0, none⟩), .pointer (some ⟨b, 10, none⟩), .int .i64 8]) rfl rfl (E.f _) (by simp [e19, e22, E.c]) (by kernel_rfl)) ?_
      refine (seg_int64 m pw (cd3 m σ c).2 none b 10 #[.int .u8 rk, .int .u8 ((cd1 m σ c).1), .int .u8 ((cd2 m σ c).1.c), .int .u64 ((cd2 m σ c).1.r), .int .u8 ((cd3 m σ c).1), .string c.name, vl, .int .i64 c.fare, vt, .int .i64 c.penalty, .int .i64 c.amount, .int .u8 rf, .int .u64 rn, .int .u8 rm.kind, .int .u8 rm.tick.c, .int .u64 rm.tick.r, .int .u8 rm.at_, .int .u8 rm.leg.c, .int .u16 rm.leg.f, .int .u32 rm.leg.x, .int .i64 rm.value, .int .u8 rm.status, .int .u32 rm.nonce, .int .i64 rm.amount, .int .i64 rm.code] c.amount 8 _ _ ((hM.front 1 rfl).front 1 rfl) ⟨Nat.le_of_ble_eq_true rfl, rfl⟩ (by decide) (by omega)).mono ?_
      rintro e' w' ⟨rfl, hm⟩
      exact ⟨_, rfl, goes_tick rfl (0, undef) rfl hm⟩
    ·
     intro e a4 w4 hz4 hd hG hO hM
     have hd4 := hd.trans hd3
     have g0_4 := (hO 0 rfl).trans g0_3
     have g1_4 := (hO 1 rfl).trans g1_3
     have hM4 : Mem (walkC m pw (cd4 m σ c).2 :: boxC b #[.int .u8 rk, .int .u8 ((cd1 m σ c).1), .int .u8 ((cd2 m σ c).1.c), .int .u64 ((cd2 m σ c).1.r), .int .u8 ((cd3 m σ c).1), .string c.name, vl, .int .i64 c.fare, vt, .int .i64 c.penalty, .int .i64 ((cd4 m σ c).1), .int .u8 rf, .int .u64 rn, .int .u8 rm.kind, .int .u8 rm.tick.c, .int .u64 rm.tick.r, .int .u8 rm.at_, .int .u8 rm.leg.c, .int .u16 rm.leg.f, .int .u32 rm.leg.x, .int .i64 rm.value, .int .u8 rm.status, .int .u32 rm.nonce, .int .i64 rm.amount, .int .i64 rm.code] :: rowC 36 3 vl c.legs.length (cellsL legE c.legs) :: rowC 58 2 vt c.taxes.length (cellsL taxE c.taxes) :: R) w4 := hM
     clear hM hG hO hd
     clear hz3 hd3 hM3 g0_3 g1_3
     refine then_n ?_
     refine wp_seq ?_
     refine region_seq 58 (fun zz e => (#[.pointer (some ⟨pw, 0, none⟩), .pointer (some ⟨b, 1, none⟩), .pointer (some ⟨b, 1, none⟩), .pointer (some ⟨b, 5, none⟩), .pointer (some ⟨b, 5, none⟩), .tuple #[]] : Array Value).getD zz undef) (fun k e w => Mem (List.getD [walkC m pw (cd4 m σ c).2 :: boxC b #[.int .u8 rk, .int .u8 ((cd1 m σ c).1), .int .u8 ((cd2 m σ c).1.c), .int .u64 ((cd2 m σ c).1.r), .int .u8 ((cd3 m σ c).1), .string c.name, vl, .int .i64 c.fare, vt, .int .i64 c.penalty, .int .i64 ((cd4 m σ c).1), .int .u8 rf, .int .u64 rn, .int .u8 rm.kind, .int .u8 rm.tick.c, .int .u64 rm.tick.r, .int .u8 rm.at_, .int .u8 rm.leg.c, .int .u16 rm.leg.f, .int .u32 rm.leg.x, .int .i64 rm.value, .int .u8 rm.status, .int .u32 rm.nonce, .int .i64 rm.amount, .int .i64 rm.code] :: rowC 36 3 vl c.legs.length (cellsL legE c.legs) :: rowC 58 2 vt c.taxes.length (cellsL taxE c.taxes) :: R, walkC m pw (cd5 m σ c).2 :: boxC b #[.int .u8 rk, .int .u8 ((cd1 m σ c).1), .int .u8 ((cd2 m σ c).1.c), .int .u64 ((cd2 m σ c).1.r), .int .u8 ((cd3 m σ c).1), .string ((cd5 m σ c).1), vl, .int .i64 c.fare, vt, .int .i64 c.penalty, .int .i64 ((cd4 m σ c).1), .int .u8 rf, .int .u64 rn, .int .u8 rm.kind, .int .u8 rm.tick.c, .int .u64 rm.tick.r, .int .u8 rm.at_, .int .u8 rm.leg.c, .int .u16 rm.leg.f, .int .u32 rm.leg.x, .int .i64 rm.value, .int .u8 rm.status, .int .u32 rm.nonce, .int .i64 rm.amount, .int .i64 rm.code] :: rowC 36 3 vl c.legs.length (cellsL legE c.legs) :: rowC 58 2 vt c.taxes.length (cellsL taxE c.taxes) :: R] k []) w) (fun _ => (0, undef)) [5] [0, 0, 0, 0, 0, 0] (fun _ _ => false) hz4 (by kernel_rfl) (by kernel_rfl) (by kernel_rfl) ?_ (show Mem _ _ from hM4) ?_ ?_
     · exact ⟨fun _ _ _ => rfl, fun _ _ _ => rfl, fun _ _ _ => rfl, fun _ _ _ => rfl, fun _ _ _ => rfl, fun _ _ _ => rfl, trivial⟩
     ·
      refine ⟨?_, ?_, ?_, ?_, ?_, ?_, trivial⟩
      · exact op2 (a := 0) rfl fun e w ρ (hM : Mem _ w) E => res_ok (x_move rfl (E.o 0 _ rfl g0_4)) (goes_still rfl rfl hM)
      · exact op2 (a := 0) rfl fun e w ρ (hM : Mem _ w) E => res_ok (x_move rfl (E.o 1 _ rfl g1_4)) (goes_still rfl rfl hM)
      · exact op2 (a := 0) rfl fun e w ρ (hM : Mem _ w) E => res_ok (x_nil rfl (E.d 1 _ 25 rfl rfl rfl)) (goes_still rfl rfl hM)
      · exact op2 (a := 0) rfl fun e w ρ (hM : Mem _ w) E => res_ok (x_fieldAddr (off := 4) rfl (E.d 2 _ 26 rfl rfl rfl) (by kernel_rfl) rfl) (goes_still rfl rfl hM)
      · exact op2 (a := 0) rfl fun e w ρ (hM : Mem _ w) E => res_ok (x_fieldAddr (off := 0) rfl (E.d 3 _ 27 rfl rfl rfl) (by kernel_rfl) rfl) (goes_still rfl rfl hM)
      ·
       refine op2 (a := 0) rfl fun e w ρ (hM : Mem _ w) E => ?_
       have e24 : ρ (.tmp 24) = .pointer (some ⟨pw, 0, none⟩) := E.d 0 _ 24 rfl rfl rfl
       have e28 : ρ (.tmp 28) = .pointer (some ⟨b, 5, none⟩) := E.d 4 _ 28 rfl rfl rfl
       refine res_in (x_call (args := #[.pointer (some ⟨pw, 0, none⟩), .pointer (some ⟨b, 5, none⟩)]) rfl rfl (E.f _) (by simp [e24, e28]) (by kernel_rfl)) ?_
       refine (text_at m pw (cd4 m σ c).2 none b 5 #[.int .u8 rk, .int .u8 ((cd1 m σ c).1), .int .u8 ((cd2 m σ c).1.c), .int .u64 ((cd2 m σ c).1.r), .int .u8 ((cd3 m σ c).1), .string c.name, vl, .int .i64 c.fare, vt, .int .i64 c.penalty, .int .i64 ((cd4 m σ c).1), .int .u8 rf, .int .u64 rn, .int .u8 rm.kind, .int .u8 rm.tick.c, .int .u64 rm.tick.r, .int .u8 rm.at_, .int .u8 rm.leg.c, .int .u16 rm.leg.f, .int .u32 rm.leg.x, .int .i64 rm.value, .int .u8 rm.status, .int .u32 rm.nonce, .int .i64 rm.amount, .int .i64 rm.code] c.name _ _ ((hM.front 1 rfl).front 1 rfl) ⟨Nat.le_of_ble_eq_true rfl, rfl⟩ (hok.name.ok (cd4 m σ c).2).2 (hok.name.ok (cd4 m σ c).2).1 (by omega)).mono ?_
       rintro e' w' ⟨rfl, hm⟩
       exact ⟨_, rfl, goes_tick rfl (0, undef) rfl hm⟩
     ·
      intro e a5 w5 hz5 hd hG hO hM
      have hd5 := hd.trans hd4
      have g0_5 := (hO 0 rfl).trans g0_4
      have g1_5 := (hO 1 rfl).trans g1_4
      have hM5 : Mem (walkC m pw (cd5 m σ c).2 :: boxC b #[.int .u8 rk, .int .u8 ((cd1 m σ c).1), .int .u8 ((cd2 m σ c).1.c), .int .u64 ((cd2 m σ c).1.r), .int .u8 ((cd3 m σ c).1), .string ((cd5 m σ c).1), vl, .int .i64 c.fare, vt, .int .i64 c.penalty, .int .i64 ((cd4 m σ c).1), .int .u8 rf, .int .u64 rn, .int .u8 rm.kind, .int .u8 rm.tick.c, .int .u64 rm.tick.r, .int .u8 rm.at_, .int .u8 rm.leg.c, .int .u16 rm.leg.f, .int .u32 rm.leg.x, .int .i64 rm.value, .int .u8 rm.status, .int .u32 rm.nonce, .int .i64 rm.amount, .int .i64 rm.code] :: rowC 36 3 vl c.legs.length (cellsL legE c.legs) :: rowC 58 2 vt c.taxes.length (cellsL taxE c.taxes) :: R) w5 := hM
      clear hM hG hO hd
      clear hz4 hd4 hM4 g0_4 g1_4
      refine then_n ?_
      refine wp_seq ?_
      refine region_seq 58 (fun zz e => (#[.pointer (some ⟨pw, 0, none⟩), .pointer (some ⟨b, 1, none⟩), .pointer (some ⟨b, 1, none⟩), .pointer (some ⟨b, 5, none⟩), .pointer (some ⟨b, 6, none⟩), .pointer (some ⟨pw, 0, none⟩), .func (.func 58) #[.pointer (some ⟨pw, 0, none⟩)] #[], .tuple #[]] : Array Value).getD zz undef) (fun k e w => Mem (List.getD [walkC m pw (cd5 m σ c).2 :: boxC b #[.int .u8 rk, .int .u8 ((cd1 m σ c).1), .int .u8 ((cd2 m σ c).1.c), .int .u64 ((cd2 m σ c).1.r), .int .u8 ((cd3 m σ c).1), .string ((cd5 m σ c).1), vl, .int .i64 c.fare, vt, .int .i64 c.penalty, .int .i64 ((cd4 m σ c).1), .int .u8 rf, .int .u64 rn, .int .u8 rm.kind, .int .u8 rm.tick.c, .int .u64 rm.tick.r, .int .u8 rm.at_, .int .u8 rm.leg.c, .int .u16 rm.leg.f, .int .u32 rm.leg.x, .int .i64 rm.value, .int .u8 rm.status, .int .u32 rm.nonce, .int .i64 rm.amount, .int .i64 rm.code] :: rowC 36 3 vl c.legs.length (cellsL legE c.legs) :: rowC 58 2 vt c.taxes.length (cellsL taxE c.taxes) :: R, walkC m pw (cd6 m σ c).2 :: boxC b #[.int .u8 rk, .int .u8 ((cd1 m σ c).1), .int .u8 ((cd2 m σ c).1.c), .int .u64 ((cd2 m σ c).1.r), .int .u8 ((cd3 m σ c).1), .string ((cd5 m σ c).1), (e 0).2, .int .i64 c.fare, vt, .int .i64 c.penalty, .int .i64 ((cd4 m σ c).1), .int .u8 rf, .int .u64 rn, .int .u8 rm.kind, .int .u8 rm.tick.c, .int .u64 rm.tick.r, .int .u8 rm.at_, .int .u8 rm.leg.c, .int .u16 rm.leg.f, .int .u32 rm.leg.x, .int .i64 rm.value, .int .u8 rm.status, .int .u32 rm.nonce, .int .i64 rm.amount, .int .i64 rm.code] :: rowC 36 3 (e 0).2 (cd6 m σ c).1.length (cellsL legE (cd6 m σ c).1) :: rowC 58 2 vt c.taxes.length (cellsL taxE c.taxes) :: R] k []) w) (fun _ => (0, undef)) [7] [0, 0, 0, 0, 0, 0, 0, 0] (fun _ _ => false) hz5 (by kernel_rfl) (by kernel_rfl) (by kernel_rfl) ?_ (show Mem _ _ from hM5) ?_ ?_
      · exact ⟨fun _ _ _ => rfl, fun _ _ _ => rfl, fun _ _ _ => rfl, fun _ _ _ => rfl, fun _ _ _ => rfl, fun _ _ _ => rfl, fun _ _ _ => rfl, fun _ _ _ => rfl, trivial⟩
      ·
       refine ⟨?_, ?_, ?_, ?_, ?_, ?_, ?_, ?_, trivial⟩
       · exact op2 (a := 0) rfl fun e w ρ (hM : Mem _ w) E => res_ok (x_move rfl (E.o 0 _ rfl g0_5)) (goes_still rfl rfl hM)
       · exact op2 (a := 0) rfl fun e w ρ (hM : Mem _ w) E => res_ok (x_move rfl (E.o 1 _ rfl g1_5)) (goes_still rfl rfl hM)
       · exact op2 (a := 0) rfl fun e w ρ (hM : Mem _ w) E => res_ok (x_nil rfl (E.d 1 _ 31 rfl rfl rfl)) (goes_still rfl rfl hM)
       · exact op2 (a := 0) rfl fun e w ρ (hM : Mem _ w) E => res_ok (x_fieldAddr (off := 4) rfl (E.d 2 _ 32 rfl rfl rfl) (by kernel_rfl) rfl) (goes_still rfl rfl hM)
       · exact op2 (a := 0) rfl fun e w ρ (hM : Mem _ w) E => res_ok (x_fieldAddr (off := 1) rfl (E.d 3 _ 33 rfl rfl rfl) (by kernel_rfl) rfl) (goes_still rfl rfl hM)
       · exact op2 (a := 0) rfl fun e w ρ (hM : Mem _ w) E => res_ok (x_move rfl (E.o 0 _ rfl g0_5)) (goes_still rfl rfl hM)
       ·
        refine op2 (a := 0) rfl fun e w ρ (hM : Mem _ w) E => ?_
        have e35 : ρ (.tmp 35) = .pointer (some ⟨pw, 0, none⟩) := E.d 5 _ 35 rfl rfl rfl
        exact res_ok (x_makeFunc (vs := #[.pointer (some ⟨pw, 0, none⟩)]) (us := #[]) rfl (by simp [e35]) (by simp)) (goes_still rfl rfl hM)
       ·
        refine op2 (a := 0) rfl fun e w ρ (hM : Mem _ w) E => ?_
        have e30 : ρ (.tmp 30) = .pointer (some ⟨pw, 0, none⟩) := E.d 0 _ 30 rfl rfl rfl
        have e34 : ρ (.tmp 34) = .pointer (some ⟨b, 6, none⟩) := E.d 4 _ 34 rfl rfl rfl
        have e36 : ρ (.tmp 36) = .func (.func 58) #[.pointer (some ⟨pw, 0, none⟩)] #[] := E.d 6 _ 36 rfl rfl rfl
        refine res_in (x_call (args := #[.pointer (some ⟨pw, 0, none⟩), .pointer (some ⟨b, 6, none⟩), .int .i64 4, .func (.func 58) #[.pointer (some ⟨pw, 0, none⟩)] #[]]) rfl rfl (E.f _) (by simp [e30, e34, e36, E.c]) (by kernel_rfl)) ?_
        refine (list_Leg m pw (cd5 m σ c).2 none b 6 #[.int .u8 rk, .int .u8 ((cd1 m σ c).1), .int .u8 ((cd2 m σ c).1.c), .int .u64 ((cd2 m σ c).1.r), .int .u8 ((cd3 m σ c).1), .string ((cd5 m σ c).1), vl, .int .i64 c.fare, vt, .int .i64 c.penalty, .int .i64 ((cd4 m σ c).1), .int .u8 rf, .int .u64 rn, .int .u8 rm.kind, .int .u8 rm.tick.c, .int .u64 rm.tick.r, .int .u8 rm.at_, .int .u8 rm.leg.c, .int .u16 rm.leg.f, .int .u32 rm.leg.x, .int .i64 rm.value, .int .u8 rm.status, .int .u32 rm.nonce, .int .i64 rm.amount, .int .i64 rm.code] vl c.legs c.legs.length 4 _ _ (((hM.front 2 rfl).front 2 rfl).front 2 rfl) rfl rfl (by have := hok.legs.le; omega) (by decide) (hok.legs.ok _) (by omega)).mono ?_
        rintro e' w' ⟨v', rfl, hm, -⟩
        exact ⟨_, rfl, goes_tick rfl (0, v') rfl hm⟩
      ·
       intro e a6 w6 hz6 hd hG hO hM
       have hd6 := hd.trans hd5
       have g0_6 := (hO 0 rfl).trans g0_5
       have g1_6 := (hO 1 rfl).trans g1_5
       have hM6 : Mem (walkC m pw (cd6 m σ c).2 :: boxC b #[.int .u8 rk, .int .u8 ((cd1 m σ c).1), .int .u8 ((cd2 m σ c).1.c), .int .u64 ((cd2 m σ c).1.r), .int .u8 ((cd3 m σ c).1), .string ((cd5 m σ c).1), (e 0).2, .int .i64 c.fare, vt, .int .i64 c.penalty, .int .i64 ((cd4 m σ c).1), .int .u8 rf, .int .u64 rn, .int .u8 rm.kind, .int .u8 rm.tick.c, .int .u64 rm.tick.r, .int .u8 rm.at_, .int .u8 rm.leg.c, .int .u16 rm.leg.f, .int .u32 rm.leg.x, .int .i64 rm.value, .int .u8 rm.status, .int .u32 rm.nonce, .int .i64 rm.amount, .int .i64 rm.code] :: rowC 36 3 (e 0).2 (cd6 m σ c).1.length (cellsL legE (cd6 m σ c).1) :: rowC 58 2 vt c.taxes.length (cellsL taxE c.taxes) :: R) w6 := hM
       clear hM hG hO hd
       clear hz5 hd5 hM5 g0_5 g1_5
       generalize (e 0).2 = v6_0 at *
       refine then_n ?_
       refine wp_seq ?_
       refine region_seq 58 (fun zz e => (#[.pointer (some ⟨pw, 0, none⟩), .pointer (some ⟨b, 1, none⟩), .pointer (some ⟨b, 1, none⟩), .pointer (some ⟨b, 5, none⟩), .pointer (some ⟨b, 7, none⟩), .tuple #[]] : Array Value).getD zz undef) (fun k e w => Mem (List.getD [walkC m pw (cd6 m σ c).2 :: boxC b #[.int .u8 rk, .int .u8 ((cd1 m σ c).1), .int .u8 ((cd2 m σ c).1.c), .int .u64 ((cd2 m σ c).1.r), .int .u8 ((cd3 m σ c).1), .string ((cd5 m σ c).1), v6_0, .int .i64 c.fare, vt, .int .i64 c.penalty, .int .i64 ((cd4 m σ c).1), .int .u8 rf, .int .u64 rn, .int .u8 rm.kind, .int .u8 rm.tick.c, .int .u64 rm.tick.r, .int .u8 rm.at_, .int .u8 rm.leg.c, .int .u16 rm.leg.f, .int .u32 rm.leg.x, .int .i64 rm.value, .int .u8 rm.status, .int .u32 rm.nonce, .int .i64 rm.amount, .int .i64 rm.code] :: rowC 36 3 v6_0 (cd6 m σ c).1.length (cellsL legE (cd6 m σ c).1) :: rowC 58 2 vt c.taxes.length (cellsL taxE c.taxes) :: R, walkC m pw (cd7 m σ c).2 :: boxC b #[.int .u8 rk, .int .u8 ((cd1 m σ c).1), .int .u8 ((cd2 m σ c).1.c), .int .u64 ((cd2 m σ c).1.r), .int .u8 ((cd3 m σ c).1), .string ((cd5 m σ c).1), v6_0, .int .i64 ((cd7 m σ c).1), vt, .int .i64 c.penalty, .int .i64 ((cd4 m σ c).1), .int .u8 rf, .int .u64 rn, .int .u8 rm.kind, .int .u8 rm.tick.c, .int .u64 rm.tick.r, .int .u8 rm.at_, .int .u8 rm.leg.c, .int .u16 rm.leg.f, .int .u32 rm.leg.x, .int .i64 rm.value, .int .u8 rm.status, .int .u32 rm.nonce, .int .i64 rm.amount, .int .i64 rm.code] :: rowC 36 3 v6_0 (cd6 m σ c).1.length (cellsL legE (cd6 m σ c).1) :: rowC 58 2 vt c.taxes.length (cellsL taxE c.taxes) :: R] k []) w) (fun _ => (0, undef)) [5] [0, 0, 0, 0, 0, 0] (fun _ _ => false) hz6 (by kernel_rfl) (by kernel_rfl) (by kernel_rfl) ?_ (show Mem _ _ from hM6) ?_ ?_
       · exact ⟨fun _ _ _ => rfl, fun _ _ _ => rfl, fun _ _ _ => rfl, fun _ _ _ => rfl, fun _ _ _ => rfl, fun _ _ _ => rfl, trivial⟩
       ·
        refine ⟨?_, ?_, ?_, ?_, ?_, ?_, trivial⟩
        · exact op2 (a := 0) rfl fun e w ρ (hM : Mem _ w) E => res_ok (x_move rfl (E.o 0 _ rfl g0_6)) (goes_still rfl rfl hM)
        · exact op2 (a := 0) rfl fun e w ρ (hM : Mem _ w) E => res_ok (x_move rfl (E.o 1 _ rfl g1_6)) (goes_still rfl rfl hM)
        · exact op2 (a := 0) rfl fun e w ρ (hM : Mem _ w) E => res_ok (x_nil rfl (E.d 1 _ 39 rfl rfl rfl)) (goes_still rfl rfl hM)
        · exact op2 (a := 0) rfl fun e w ρ (hM : Mem _ w) E => res_ok (x_fieldAddr (off := 4) rfl (E.d 2 _ 40 rfl rfl rfl) (by kernel_rfl) rfl) (goes_still rfl rfl hM)
        · exact op2 (a := 0) rfl fun e w ρ (hM : Mem _ w) E => res_ok (x_fieldAddr (off := 2) rfl (E.d 3 _ 41 rfl rfl rfl) (by kernel_rfl) rfl) (goes_still rfl rfl hM)
        ·
         refine op2 (a := 0) rfl fun e w ρ (hM : Mem _ w) E => ?_
         have e38 : ρ (.tmp 38) = .pointer (some ⟨pw, 0, none⟩) := E.d 0 _ 38 rfl rfl rfl
         have e42 : ρ (.tmp 42) = .pointer (some ⟨b, 7, none⟩) := E.d 4 _ 42 rfl rfl rfl
         refine res_in (x_call (args := #[.pointer (some ⟨pw, 0, none⟩), .pointer (some ⟨b, 7, none⟩), .int .i64 8]) rfl rfl (E.f _) (by simp [e38, e42, E.c]) (by kernel_rfl)) ?_
         refine (seg_int64 m pw (cd6 m σ c).2 none b 7 #[.int .u8 rk, .int .u8 ((cd1 m σ c).1), .int .u8 ((cd2 m σ c).1.c), .int .u64 ((cd2 m σ c).1.r), .int .u8 ((cd3 m σ c).1), .string ((cd5 m σ c).1), v6_0, .int .i64 c.fare, vt, .int .i64 c.penalty, .int .i64 ((cd4 m σ c).1), .int .u8 rf, .int .u64 rn, .int .u8 rm.kind, .int .u8 rm.tick.c, .int .u64 rm.tick.r, .int .u8 rm.at_, .int .u8 rm.leg.c, .int .u16 rm.leg.f, .int .u32 rm.leg.x, .int .i64 rm.value, .int .u8 rm.status, .int .u32 rm.nonce, .int .i64 rm.amount, .int .i64 rm.code] c.fare 8 _ _ ((hM.front 1 rfl).front 1 rfl) ⟨Nat.le_of_ble_eq_true rfl, rfl⟩ (by decide) (by omega)).mono ?_
         rintro e' w' ⟨rfl, hm⟩
         exact ⟨_, rfl, goes_tick rfl (0, undef) rfl hm⟩
       ·
        intro e a7 w7 hz7 hd hG hO hM
        have hd7 := hd.trans hd6
        have g0_7 := (hO 0 rfl).trans g0_6
        have g1_7 := (hO 1 rfl).trans g1_6
        have hM7 : Mem (walkC m pw (cd7 m σ c).2 :: boxC b #[.int .u8 rk, .int .u8 ((cd1 m σ c).1), .int .u8 ((cd2 m σ c).1.c), .int .u64 ((cd2 m σ c).1.r), .int .u8 ((cd3 m σ c).1), .string ((cd5 m σ c).1), v6_0, .int .i64 ((cd7 m σ c).1), vt, .int .i64 c.penalty, .int .i64 ((cd4 m σ c).1), .int .u8 rf, .int .u64 rn, .int .u8 rm.kind, .int .u8 rm.tick.c, .int .u64 rm.tick.r, .int .u8 rm.at_, .int .u8 rm.leg.c, .int .u16 rm.leg.f, .int .u32 rm.leg.x, .int .i64 rm.value, .int .u8 rm.status, .int .u32 rm.nonce, .int .i64 rm.amount, .int .i64 rm.code] :: rowC 36 3 v6_0 (cd6 m σ c).1.length (cellsL legE (cd6 m σ c).1) :: rowC 58 2 vt c.taxes.length (cellsL taxE c.taxes) :: R) w7 := hM
        clear hM hG hO hd
        clear hz6 hd6 hM6 g0_6 g1_6
        refine then_n ?_
        refine wp_seq ?_
        refine region_seq 58 (fun zz e => (#[.pointer (some ⟨pw, 0, none⟩), .pointer (some ⟨b, 1, none⟩), .pointer (some ⟨b, 1, none⟩), .pointer (some ⟨b, 5, none⟩), .pointer (some ⟨b, 8, none⟩), .pointer (some ⟨pw, 0, none⟩), .func (.func 60) #[.pointer (some ⟨pw, 0, none⟩)] #[], .tuple #[]] : Array Value).getD zz undef) (fun k e w => Mem (List.getD [walkC m pw (cd7 m σ c).2 :: boxC b #[.int .u8 rk, .int .u8 ((cd1 m σ c).1), .int .u8 ((cd2 m σ c).1.c), .int .u64 ((cd2 m σ c).1.r), .int .u8 ((cd3 m σ c).1), .string ((cd5 m σ c).1), v6_0, .int .i64 ((cd7 m σ c).1), vt, .int .i64 c.penalty, .int .i64 ((cd4 m σ c).1), .int .u8 rf, .int .u64 rn, .int .u8 rm.kind, .int .u8 rm.tick.c, .int .u64 rm.tick.r, .int .u8 rm.at_, .int .u8 rm.leg.c, .int .u16 rm.leg.f, .int .u32 rm.leg.x, .int .i64 rm.value, .int .u8 rm.status, .int .u32 rm.nonce, .int .i64 rm.amount, .int .i64 rm.code] :: rowC 36 3 v6_0 (cd6 m σ c).1.length (cellsL legE (cd6 m σ c).1) :: rowC 58 2 vt c.taxes.length (cellsL taxE c.taxes) :: R, walkC m pw (cd8 m σ c).2 :: boxC b #[.int .u8 rk, .int .u8 ((cd1 m σ c).1), .int .u8 ((cd2 m σ c).1.c), .int .u64 ((cd2 m σ c).1.r), .int .u8 ((cd3 m σ c).1), .string ((cd5 m σ c).1), v6_0, .int .i64 ((cd7 m σ c).1), (e 0).2, .int .i64 c.penalty, .int .i64 ((cd4 m σ c).1), .int .u8 rf, .int .u64 rn, .int .u8 rm.kind, .int .u8 rm.tick.c, .int .u64 rm.tick.r, .int .u8 rm.at_, .int .u8 rm.leg.c, .int .u16 rm.leg.f, .int .u32 rm.leg.x, .int .i64 rm.value, .int .u8 rm.status, .int .u32 rm.nonce, .int .i64 rm.amount, .int .i64 rm.code] :: rowC 58 2 (e 0).2 (cd8 m σ c).1.length (cellsL taxE (cd8 m σ c).1) :: rowC 36 3 v6_0 (cd6 m σ c).1.length (cellsL legE (cd6 m σ c).1) :: R] k []) w) (fun _ => (0, undef)) [7] [0, 0, 0, 0, 0, 0, 0, 0] (fun _ _ => false) hz7 (by kernel_rfl) (by kernel_rfl) (by kernel_rfl) ?_ (show Mem _ _ from hM7) ?_ ?_
        · exact ⟨fun _ _ _ => rfl, fun _ _ _ => rfl, fun _ _ _ => rfl, fun _ _ _ => rfl, fun _ _ _ => rfl, fun _ _ _ => rfl, fun _ _ _ => rfl, fun _ _ _ => rfl, trivial⟩
        ·
         refine ⟨?_, ?_, ?_, ?_, ?_, ?_, ?_, ?_, trivial⟩
         · exact op2 (a := 0) rfl fun e w ρ (hM : Mem _ w) E => res_ok (x_move rfl (E.o 0 _ rfl g0_7)) (goes_still rfl rfl hM)
         · exact op2 (a := 0) rfl fun e w ρ (hM : Mem _ w) E => res_ok (x_move rfl (E.o 1 _ rfl g1_7)) (goes_still rfl rfl hM)
         · exact op2 (a := 0) rfl fun e w ρ (hM : Mem _ w) E => res_ok (x_nil rfl (E.d 1 _ 45 rfl rfl rfl)) (goes_still rfl rfl hM)
         · exact op2 (a := 0) rfl fun e w ρ (hM : Mem _ w) E => res_ok (x_fieldAddr (off := 4) rfl (E.d 2 _ 46 rfl rfl rfl) (by kernel_rfl) rfl) (goes_still rfl rfl hM)
         · exact op2 (a := 0) rfl fun e w ρ (hM : Mem _ w) E => res_ok (x_fieldAddr (off := 3) rfl (E.d 3 _ 47 rfl rfl rfl) (by kernel_rfl) rfl) (goes_still rfl rfl hM)
         · exact op2 (a := 0) rfl fun e w ρ (hM : Mem _ w) E => res_ok (x_move rfl (E.o 0 _ rfl g0_7)) (goes_still rfl rfl hM)
         ·
          refine op2 (a := 0) rfl fun e w ρ (hM : Mem _ w) E => ?_
          have e49 : ρ (.tmp 49) = .pointer (some ⟨pw, 0, none⟩) := E.d 5 _ 49 rfl rfl rfl
          exact res_ok (x_makeFunc (vs := #[.pointer (some ⟨pw, 0, none⟩)]) (us := #[]) rfl (by simp [e49]) (by simp)) (goes_still rfl rfl hM)
         ·
          refine op2 (a := 0) rfl fun e w ρ (hM : Mem _ w) E => ?_
          have e44 : ρ (.tmp 44) = .pointer (some ⟨pw, 0, none⟩) := E.d 0 _ 44 rfl rfl rfl
          have e48 : ρ (.tmp 48) = .pointer (some ⟨b, 8, none⟩) := E.d 4 _ 48 rfl rfl rfl
          have e50 : ρ (.tmp 50) = .func (.func 60) #[.pointer (some ⟨pw, 0, none⟩)] #[] := E.d 6 _ 50 rfl rfl rfl
          refine res_in (x_call (args := #[.pointer (some ⟨pw, 0, none⟩), .pointer (some ⟨b, 8, none⟩), .int .i64 4, .func (.func 60) #[.pointer (some ⟨pw, 0, none⟩)] #[]]) rfl rfl (E.f _) (by simp [e44, e48, e50, E.c]) (by kernel_rfl)) ?_
          refine (list_Tax m pw (cd7 m σ c).2 none b 8 #[.int .u8 rk, .int .u8 ((cd1 m σ c).1), .int .u8 ((cd2 m σ c).1.c), .int .u64 ((cd2 m σ c).1.r), .int .u8 ((cd3 m σ c).1), .string ((cd5 m σ c).1), v6_0, .int .i64 ((cd7 m σ c).1), vt, .int .i64 c.penalty, .int .i64 ((cd4 m σ c).1), .int .u8 rf, .int .u64 rn, .int .u8 rm.kind, .int .u8 rm.tick.c, .int .u64 rm.tick.r, .int .u8 rm.at_, .int .u8 rm.leg.c, .int .u16 rm.leg.f, .int .u32 rm.leg.x, .int .i64 rm.value, .int .u8 rm.status, .int .u32 rm.nonce, .int .i64 rm.amount, .int .i64 rm.code] vt c.taxes c.taxes.length 4 _ _ (((hM.front 3 rfl).front 2 rfl).front 2 rfl) rfl rfl (by have := hok.taxes.le; omega) (by decide) (hok.taxes.ok _) (by omega) hok.codes).mono ?_
          rintro e' w' ⟨v', rfl, hm, -⟩
          exact ⟨_, rfl, goes_tick rfl (0, v') rfl hm⟩
        ·
         intro e a8 w8 hz8 hd hG hO hM
         have hd8 := hd.trans hd7
         have g0_8 := (hO 0 rfl).trans g0_7
         have g1_8 := (hO 1 rfl).trans g1_7
         have hM8 : Mem (walkC m pw (cd8 m σ c).2 :: boxC b #[.int .u8 rk, .int .u8 ((cd1 m σ c).1), .int .u8 ((cd2 m σ c).1.c), .int .u64 ((cd2 m σ c).1.r), .int .u8 ((cd3 m σ c).1), .string ((cd5 m σ c).1), v6_0, .int .i64 ((cd7 m σ c).1), (e 0).2, .int .i64 c.penalty, .int .i64 ((cd4 m σ c).1), .int .u8 rf, .int .u64 rn, .int .u8 rm.kind, .int .u8 rm.tick.c, .int .u64 rm.tick.r, .int .u8 rm.at_, .int .u8 rm.leg.c, .int .u16 rm.leg.f, .int .u32 rm.leg.x, .int .i64 rm.value, .int .u8 rm.status, .int .u32 rm.nonce, .int .i64 rm.amount, .int .i64 rm.code] :: rowC 58 2 (e 0).2 (cd8 m σ c).1.length (cellsL taxE (cd8 m σ c).1) :: rowC 36 3 v6_0 (cd6 m σ c).1.length (cellsL legE (cd6 m σ c).1) :: R) w8 := hM
         clear hM hG hO hd
         clear hz7 hd7 hM7 g0_7 g1_7
         generalize (e 0).2 = v8_0 at *
         refine then_n ?_
         refine region_seq 58 (fun zz e => (#[.pointer (some ⟨pw, 0, none⟩), .pointer (some ⟨b, 1, none⟩), .pointer (some ⟨b, 1, none⟩), .pointer (some ⟨b, 5, none⟩), .pointer (some ⟨b, 9, none⟩), .tuple #[]] : Array Value).getD zz undef) (fun k e w => Mem (List.getD [walkC m pw (cd8 m σ c).2 :: boxC b #[.int .u8 rk, .int .u8 ((cd1 m σ c).1), .int .u8 ((cd2 m σ c).1.c), .int .u64 ((cd2 m σ c).1.r), .int .u8 ((cd3 m σ c).1), .string ((cd5 m σ c).1), v6_0, .int .i64 ((cd7 m σ c).1), v8_0, .int .i64 c.penalty, .int .i64 ((cd4 m σ c).1), .int .u8 rf, .int .u64 rn, .int .u8 rm.kind, .int .u8 rm.tick.c, .int .u64 rm.tick.r, .int .u8 rm.at_, .int .u8 rm.leg.c, .int .u16 rm.leg.f, .int .u32 rm.leg.x, .int .i64 rm.value, .int .u8 rm.status, .int .u32 rm.nonce, .int .i64 rm.amount, .int .i64 rm.code] :: rowC 58 2 v8_0 (cd8 m σ c).1.length (cellsL taxE (cd8 m σ c).1) :: rowC 36 3 v6_0 (cd6 m σ c).1.length (cellsL legE (cd6 m σ c).1) :: R, walkC m pw (cd9 m σ c).2 :: boxC b #[.int .u8 rk, .int .u8 ((cd1 m σ c).1), .int .u8 ((cd2 m σ c).1.c), .int .u64 ((cd2 m σ c).1.r), .int .u8 ((cd3 m σ c).1), .string ((cd5 m σ c).1), v6_0, .int .i64 ((cd7 m σ c).1), v8_0, .int .i64 ((cd9 m σ c).1), .int .i64 ((cd4 m σ c).1), .int .u8 rf, .int .u64 rn, .int .u8 rm.kind, .int .u8 rm.tick.c, .int .u64 rm.tick.r, .int .u8 rm.at_, .int .u8 rm.leg.c, .int .u16 rm.leg.f, .int .u32 rm.leg.x, .int .i64 rm.value, .int .u8 rm.status, .int .u32 rm.nonce, .int .i64 rm.amount, .int .i64 rm.code] :: rowC 58 2 v8_0 (cd8 m σ c).1.length (cellsL taxE (cd8 m σ c).1) :: rowC 36 3 v6_0 (cd6 m σ c).1.length (cellsL legE (cd6 m σ c).1) :: R] k []) w) (fun _ => (0, undef)) [5] [0, 0, 0, 0, 0, 0] (fun _ _ => false) hz8 (by kernel_rfl) (by kernel_rfl) (by kernel_rfl) ?_ (show Mem _ _ from hM8) ?_ ?_
         · exact ⟨fun _ _ _ => rfl, fun _ _ _ => rfl, fun _ _ _ => rfl, fun _ _ _ => rfl, fun _ _ _ => rfl, fun _ _ _ => rfl, trivial⟩
         ·
          refine ⟨?_, ?_, ?_, ?_, ?_, ?_, trivial⟩
          · exact op2 (a := 0) rfl fun e w ρ (hM : Mem _ w) E => res_ok (x_move rfl (E.o 0 _ rfl g0_8)) (goes_still rfl rfl hM)
          · exact op2 (a := 0) rfl fun e w ρ (hM : Mem _ w) E => res_ok (x_move rfl (E.o 1 _ rfl g1_8)) (goes_still rfl rfl hM)
          · exact op2 (a := 0) rfl fun e w ρ (hM : Mem _ w) E => res_ok (x_nil rfl (E.d 1 _ 53 rfl rfl rfl)) (goes_still rfl rfl hM)
          · exact op2 (a := 0) rfl fun e w ρ (hM : Mem _ w) E => res_ok (x_fieldAddr (off := 4) rfl (E.d 2 _ 54 rfl rfl rfl) (by kernel_rfl) rfl) (goes_still rfl rfl hM)
          · exact op2 (a := 0) rfl fun e w ρ (hM : Mem _ w) E => res_ok (x_fieldAddr (off := 4) rfl (E.d 3 _ 55 rfl rfl rfl) (by kernel_rfl) rfl) (goes_still rfl rfl hM)
          ·
           refine op2 (a := 0) rfl fun e w ρ (hM : Mem _ w) E => ?_
           have e52 : ρ (.tmp 52) = .pointer (some ⟨pw, 0, none⟩) := E.d 0 _ 52 rfl rfl rfl
           have e56 : ρ (.tmp 56) = .pointer (some ⟨b, 9, none⟩) := E.d 4 _ 56 rfl rfl rfl
           refine res_in (x_call (args := #[.pointer (some ⟨pw, 0, none⟩), .pointer (some ⟨b, 9, none⟩), .int .i64 8]) rfl rfl (E.f _) (by simp [e52, e56, E.c]) (by kernel_rfl)) ?_
           refine (seg_int64 m pw (cd8 m σ c).2 none b 9 #[.int .u8 rk, .int .u8 ((cd1 m σ c).1), .int .u8 ((cd2 m σ c).1.c), .int .u64 ((cd2 m σ c).1.r), .int .u8 ((cd3 m σ c).1), .string ((cd5 m σ c).1), v6_0, .int .i64 ((cd7 m σ c).1), v8_0, .int .i64 c.penalty, .int .i64 ((cd4 m σ c).1), .int .u8 rf, .int .u64 rn, .int .u8 rm.kind, .int .u8 rm.tick.c, .int .u64 rm.tick.r, .int .u8 rm.at_, .int .u8 rm.leg.c, .int .u16 rm.leg.f, .int .u32 rm.leg.x, .int .i64 rm.value, .int .u8 rm.status, .int .u32 rm.nonce, .int .i64 rm.amount, .int .i64 rm.code] c.penalty 8 _ _ ((hM.front 1 rfl).front 1 rfl) ⟨Nat.le_of_ble_eq_true rfl, rfl⟩ (by decide) (by omega)).mono ?_
           rintro e' w' ⟨rfl, hm⟩
           exact ⟨_, rfl, goes_tick rfl (0, undef) rfl hm⟩
         ·
          intro e a9 w9 hz9 hd hG hO hM
          have hd9 := hd.trans hd8
          have hM9 : Mem (walkC m pw (cd9 m σ c).2 :: boxC b #[.int .u8 rk, .int .u8 ((cd1 m σ c).1), .int .u8 ((cd2 m σ c).1.c), .int .u64 ((cd2 m σ c).1.r), .int .u8 ((cd3 m σ c).1), .string ((cd5 m σ c).1), v6_0, .int .i64 ((cd7 m σ c).1), v8_0, .int .i64 ((cd9 m σ c).1), .int .i64 ((cd4 m σ c).1), .int .u8 rf, .int .u64 rn, .int .u8 rm.kind, .int .u8 rm.tick.c, .int .u64 rm.tick.r, .int .u8 rm.at_, .int .u8 rm.leg.c, .int .u16 rm.leg.f, .int .u32 rm.leg.x, .int .i64 rm.value, .int .u8 rm.status, .int .u32 rm.nonce, .int .i64 rm.amount, .int .i64 rm.code] :: rowC 58 2 v8_0 (cd8 m σ c).1.length (cellsL taxE (cd8 m σ c).1) :: rowC 36 3 v6_0 (cd6 m σ c).1.length (cellsL legE (cd6 m σ c).1) :: R) w9 := hM
          clear hM hG hO hd
          clear hz8 hd8 hM8 g0_8 g1_8
          refine end_r ?_
          refine ret_0 Try.results41 hd9 ?_
          refine ⟨v6_0, v8_0, rfl, ?_⟩
          exact ((((hM9.front 2 rfl).front 3 rfl).front 3 rfl).front 3 rfl)
def md1 (m : Md) (σ : WS) (c : MsgV) := fld .u8 m σ c.kind 1
def md2 (m : Md) (σ : WS) (c : MsgV) := tickF m (md1 m σ c).2 c.tick
def md3 (m : Md) (σ : WS) (c : MsgV) := fld .u8 m (md2 m σ c).2 c.at_ 1
def md4 (m : Md) (σ : WS) (c : MsgV) := legF m (md3 m σ c).2 c.leg
def md5 (m : Md) (σ : WS) (c : MsgV) := fld .i64 m (md4 m σ c).2 c.value 8
def md6 (m : Md) (σ : WS) (c : MsgV) := fld .u8 m (md5 m σ c).2 c.status 1
def md7 (m : Md) (σ : WS) (c : MsgV) := fld .u32 m (md6 m σ c).2 c.nonce 4
def md8 (m : Md) (σ : WS) (c : MsgV) := fld .i64 m (md7 m σ c).2 c.amount 8
def md9 (m : Md) (σ : WS) (c : MsgV) := fld .i64 m (md8 m σ c).2 c.code 8
def msgF (m : Md) (σ : WS) (c : MsgV) : MsgV × WS := (⟨(md1 m σ c).1, (md2 m σ c).1, (md3 m σ c).1, (md4 m σ c).1, (md5 m σ c).1, (md6 m σ c).1, (md7 m σ c).1, (md8 m σ c).1, (md9 m σ c).1⟩, (md9 m σ c).2)
structure MsgOk (c : MsgV) : Prop where
 r : 0 ≤ c.tick.r ∧ c.tick.r ≤ 18446744073709551615
set_option maxRecDepth 100000 in
set_option maxHeartbeats 8000000 in
theorem message_at (m : Md) (pw : Nat) (σ : WS) (b : Nat) (r : RecV) (vl vt : Value) (R : List Chunk) (w : World) (hM : Mem (walkC m pw σ :: boxC b (recCells r vl vt) :: R) w) (hok : MsgOk r.msg) (hb : σ.bs.length ≤ 900000) :
  Calls Try.prog 43 #[.pointer (some ⟨pw, 0, none⟩), .pointer (some ⟨b, 13, none⟩)] w fun e w' => e = .returned (.tuple #[]) ∧ Mem (walkC m pw (msgF m σ r.msg).2 :: boxC b (recCells { r with msg := (msgF m σ r.msg).1 } vl vt) :: R) w' := by
 obtain ⟨rk, cm, rf, rn, c⟩ := r
 replace hok : MsgOk c := hok
 have h1 : (md1 m σ c).2.bs.length ≤ σ.bs.length + 1 := fld_len .u8 m σ c.kind 1
 have h2 : (md2 m σ c).2.bs.length ≤ (md1 m σ c).2.bs.length + 9 := tickF_len m (md1 m σ c).2 c.tick
 have h3 : (md3 m σ c).2.bs.length ≤ (md2 m σ c).2.bs.length + 1 := fld_len .u8 m (md2 m σ c).2 c.at_ 1
 have h4 : (md4 m σ c).2.bs.length ≤ (md3 m σ c).2.bs.length + 7 := legF_len m (md3 m σ c).2 c.leg
 have h5 : (md5 m σ c).2.bs.length ≤ (md4 m σ c).2.bs.length + 8 := fld_len .i64 m (md4 m σ c).2 c.value 8
 have h6 : (md6 m σ c).2.bs.length ≤ (md5 m σ c).2.bs.length + 1 := fld_len .u8 m (md5 m σ c).2 c.status 1
 have h7 : (md7 m σ c).2.bs.length ≤ (md6 m σ c).2.bs.length + 4 := fld_len .u32 m (md6 m σ c).2 c.nonce 4
 have h8 : (md8 m σ c).2.bs.length ≤ (md7 m σ c).2.bs.length + 8 := fld_len .i64 m (md7 m σ c).2 c.amount 8
 have h9 : (md9 m σ c).2.bs.length ≤ (md8 m σ c).2.bs.length + 8 := fld_len .i64 m (md8 m σ c).2 c.code 8
 refine enter Try.func43 rfl Try.ntmps43 (Nat.le_of_ble_eq_true rfl) ?_
 intro a0 hz0 hd0 hg0
 have g0_0 : a0.tmps[0]? = some (.pointer (some ⟨pw, 0, none⟩)) := hg0 0 _ rfl
 have g1_0 : a0.tmps[1]? = some (.pointer (some ⟨b, 13, none⟩)) := hg0 1 _ rfl
 clear hg0
 have hM0 : Mem (walkC m pw σ :: boxC b #[.int .u8 rk, .int .u8 cm.kind, .int .u8 cm.tick.c, .int .u64 cm.tick.r, .int .u8 cm.at_, .string cm.name, vl, .int .i64 cm.fare, vt, .int .i64 cm.penalty, .int .i64 cm.amount, .int .u8 rf, .int .u64 rn, .int .u8 c.kind, .int .u8 c.tick.c, .int .u64 c.tick.r, .int .u8 c.at_, .int .u8 c.leg.c, .int .u16 c.leg.f, .int .u32 c.leg.x, .int .i64 c.value, .int .u8 c.status, .int .u32 c.nonce, .int .i64 c.amount, .int .i64 c.code] :: R) _ := hM
 refine wp_seq ?_
 refine region_seq 55 (fun zz e => (#[.pointer (some ⟨pw, 0, none⟩), .pointer (some ⟨b, 13, none⟩), .pointer (some ⟨b, 13, none⟩), .pointer (some ⟨b, 13, none⟩), .tuple #[]] : Array Value).getD zz undef) (fun k e w => Mem (List.getD [walkC m pw σ :: boxC b #[.int .u8 rk, .int .u8 cm.kind, .int .u8 cm.tick.c, .int .u64 cm.tick.r, .int .u8 cm.at_, .string cm.name, vl, .int .i64 cm.fare, vt, .int .i64 cm.penalty, .int .i64 cm.amount, .int .u8 rf, .int .u64 rn, .int .u8 c.kind, .int .u8 c.tick.c, .int .u64 c.tick.r, .int .u8 c.at_, .int .u8 c.leg.c, .int .u16 c.leg.f, .int .u32 c.leg.x, .int .i64 c.value, .int .u8 c.status, .int .u32 c.nonce, .int .i64 c.amount, .int .i64 c.code] :: R, walkC m pw (md1 m σ c).2 :: boxC b #[.int .u8 rk, .int .u8 cm.kind, .int .u8 cm.tick.c, .int .u64 cm.tick.r, .int .u8 cm.at_, .string cm.name, vl, .int .i64 cm.fare, vt, .int .i64 cm.penalty, .int .i64 cm.amount, .int .u8 rf, .int .u64 rn, .int .u8 ((md1 m σ c).1), .int .u8 c.tick.c, .int .u64 c.tick.r, .int .u8 c.at_, .int .u8 c.leg.c, .int .u16 c.leg.f, .int .u32 c.leg.x, .int .i64 c.value, .int .u8 c.status, .int .u32 c.nonce, .int .i64 c.amount, .int .i64 c.code] :: R] k []) w) (fun _ => (0, undef)) [4] [0, 0, 0, 0, 0] (fun _ _ => false) hz0 (by kernel_rfl) (by kernel_rfl) (by kernel_rfl) ?_ (show Mem _ _ from hM0) ?_ ?_
 · exact ⟨fun _ _ _ => rfl, fun _ _ _ => rfl, fun _ _ _ => rfl, fun _ _ _ => rfl, fun _ _ _ => rfl, trivial⟩
 ·
  refine ⟨?_, ?_, ?_, ?_, ?_, trivial⟩
  · exact op2 (a := 0) rfl fun e w ρ (hM : Mem _ w) E => res_ok (x_move rfl (E.o 0 _ rfl g0_0)) (goes_still rfl rfl hM)
  · exact op2 (a := 0) rfl fun e w ρ (hM : Mem _ w) E => res_ok (x_move rfl (E.o 1 _ rfl g1_0)) (goes_still rfl rfl hM)
  · exact op2 (a := 0) rfl fun e w ρ (hM : Mem _ w) E => res_ok (x_nil rfl (E.d 1 _ 5 rfl rfl rfl)) (goes_still rfl rfl hM)
  · exact op2 (a := 0) rfl fun e w ρ (hM : Mem _ w) E => res_ok (x_fieldAddr (off := 0) rfl (E.d 2 _ 6 rfl rfl rfl) (by kernel_rfl) rfl) (goes_still rfl rfl hM)
  ·
   refine op2 (a := 0) rfl fun e w ρ (hM : Mem _ w) E => ?_
   have e4 : ρ (.tmp 4) = .pointer (some ⟨pw, 0, none⟩) := E.d 0 _ 4 rfl rfl rfl
   have e7 : ρ (.tmp 7) = .pointer (some ⟨b, 13, none⟩) := E.d 3 _ 7 rfl rfl rfl
   refine res_in (x_call (args := #[.pointer (some ⟨pw, 0, none⟩), .pointer (some ⟨b, 13, none⟩), .int .i64 1]) rfl rfl (E.f _) (by simp [e4, e7, E.c]) (by kernel_rfl)) ?_
   refine (seg_uint8 m pw σ none b 13 #[.int .u8 rk, .int .u8 cm.kind, .int .u8 cm.tick.c, .int .u64 cm.tick.r, .int .u8 cm.at_, .string cm.name, vl, .int .i64 cm.fare, vt, .int .i64 cm.penalty, .int .i64 cm.amount, .int .u8 rf, .int .u64 rn, .int .u8 c.kind, .int .u8 c.tick.c, .int .u64 c.tick.r, .int .u8 c.at_, .int .u8 c.leg.c, .int .u16 c.leg.f, .int .u32 c.leg.x, .int .i64 c.value, .int .u8 c.status, .int .u32 c.nonce, .int .i64 c.amount, .int .i64 c.code] c.kind 1 _ _ ((hM.front 1 rfl).front 1 rfl) ⟨Nat.le_of_ble_eq_true rfl, rfl⟩ (by decide) (by omega)).mono ?_
   rintro e' w' ⟨rfl, hm⟩
   exact ⟨_, rfl, goes_tick rfl (0, undef) rfl hm⟩
 ·
  intro e a1 w1 hz1 hd hG hO hM
  have hd1 := hd.trans hd0
  have g0_1 := (hO 0 rfl).trans g0_0
  have g1_1 := (hO 1 rfl).trans g1_0
  have hM1 : Mem (walkC m pw (md1 m σ c).2 :: boxC b #[.int .u8 rk, .int .u8 cm.kind, .int .u8 cm.tick.c, .int .u64 cm.tick.r, .int .u8 cm.at_, .string cm.name, vl, .int .i64 cm.fare, vt, .int .i64 cm.penalty, .int .i64 cm.amount, .int .u8 rf, .int .u64 rn, .int .u8 ((md1 m σ c).1), .int .u8 c.tick.c, .int .u64 c.tick.r, .int .u8 c.at_, .int .u8 c.leg.c, .int .u16 c.leg.f, .int .u32 c.leg.x, .int .i64 c.value, .int .u8 c.status, .int .u32 c.nonce, .int .i64 c.amount, .int .i64 c.code] :: R) w1 := hM
  clear hM hG hO hd
  clear hz0 hd0 hM0 g0_0 g1_0
  refine then_n ?_
  refine wp_seq ?_
  refine region_seq 55 (fun zz e => (#[.pointer (some ⟨pw, 0, none⟩), .pointer (some ⟨b, 13, none⟩), .pointer (some ⟨b, 13, none⟩), .pointer (some ⟨b, 14, none⟩), .pointer (some ⟨b, 14, none⟩), .tuple #[]] : Array Value).getD zz undef) (fun k e w => Mem (List.getD [walkC m pw (md1 m σ c).2 :: boxC b #[.int .u8 rk, .int .u8 cm.kind, .int .u8 cm.tick.c, .int .u64 cm.tick.r, .int .u8 cm.at_, .string cm.name, vl, .int .i64 cm.fare, vt, .int .i64 cm.penalty, .int .i64 cm.amount, .int .u8 rf, .int .u64 rn, .int .u8 ((md1 m σ c).1), .int .u8 c.tick.c, .int .u64 c.tick.r, .int .u8 c.at_, .int .u8 c.leg.c, .int .u16 c.leg.f, .int .u32 c.leg.x, .int .i64 c.value, .int .u8 c.status, .int .u32 c.nonce, .int .i64 c.amount, .int .i64 c.code] :: R, walkC m pw (md2 m σ c).2 :: boxC b #[.int .u8 rk, .int .u8 cm.kind, .int .u8 cm.tick.c, .int .u64 cm.tick.r, .int .u8 cm.at_, .string cm.name, vl, .int .i64 cm.fare, vt, .int .i64 cm.penalty, .int .i64 cm.amount, .int .u8 rf, .int .u64 rn, .int .u8 ((md1 m σ c).1), .int .u8 ((md2 m σ c).1.c), .int .u64 ((md2 m σ c).1.r), .int .u8 c.at_, .int .u8 c.leg.c, .int .u16 c.leg.f, .int .u32 c.leg.x, .int .i64 c.value, .int .u8 c.status, .int .u32 c.nonce, .int .i64 c.amount, .int .i64 c.code] :: R] k []) w) (fun _ => (0, undef)) [5] [0, 0, 0, 0, 0, 0] (fun _ _ => false) hz1 (by kernel_rfl) (by kernel_rfl) (by kernel_rfl) ?_ (show Mem _ _ from hM1) ?_ ?_
  · exact ⟨fun _ _ _ => rfl, fun _ _ _ => rfl, fun _ _ _ => rfl, fun _ _ _ => rfl, fun _ _ _ => rfl, fun _ _ _ => rfl, trivial⟩
  ·
   refine ⟨?_, ?_, ?_, ?_, ?_, ?_, trivial⟩
   · exact op2 (a := 0) rfl fun e w ρ (hM : Mem _ w) E => res_ok (x_move rfl (E.o 0 _ rfl g0_1)) (goes_still rfl rfl hM)
   · exact op2 (a := 0) rfl fun e w ρ (hM : Mem _ w) E => res_ok (x_move rfl (E.o 1 _ rfl g1_1)) (goes_still rfl rfl hM)
   · exact op2 (a := 0) rfl fun e w ρ (hM : Mem _ w) E => res_ok (x_nil rfl (E.d 1 _ 10 rfl rfl rfl)) (goes_still rfl rfl hM)
   · exact op2 (a := 0) rfl fun e w ρ (hM : Mem _ w) E => res_ok (x_fieldAddr (off := 1) rfl (E.d 2 _ 11 rfl rfl rfl) (by kernel_rfl) rfl) (goes_still rfl rfl hM)
   · exact op2 (a := 0) rfl fun e w ρ (hM : Mem _ w) E => res_ok (x_fieldAddr (off := 0) rfl (E.d 3 _ 12 rfl rfl rfl) (by kernel_rfl) rfl) (goes_still rfl rfl hM)
   ·
    refine op2 (a := 0) rfl fun e w ρ (hM : Mem _ w) E => ?_
    have e9 : ρ (.tmp 9) = .pointer (some ⟨pw, 0, none⟩) := E.d 0 _ 9 rfl rfl rfl
    have e13 : ρ (.tmp 13) = .pointer (some ⟨b, 14, none⟩) := E.d 4 _ 13 rfl rfl rfl
    refine res_in (x_call (args := #[.pointer (some ⟨pw, 0, none⟩), .pointer (some ⟨b, 14, none⟩)]) rfl rfl (E.f _) (by simp [e13, e9]) (by kernel_rfl)) ?_
    refine (tick_at m pw (md1 m σ c).2 none b 14 #[.int .u8 rk, .int .u8 cm.kind, .int .u8 cm.tick.c, .int .u64 cm.tick.r, .int .u8 cm.at_, .string cm.name, vl, .int .i64 cm.fare, vt, .int .i64 cm.penalty, .int .i64 cm.amount, .int .u8 rf, .int .u64 rn, .int .u8 ((md1 m σ c).1), .int .u8 c.tick.c, .int .u64 c.tick.r, .int .u8 c.at_, .int .u8 c.leg.c, .int .u16 c.leg.f, .int .u32 c.leg.x, .int .i64 c.value, .int .u8 c.status, .int .u32 c.nonce, .int .i64 c.amount, .int .i64 c.code] c.tick _ _ ((hM.front 1 rfl).front 1 rfl) ⟨Nat.le_of_ble_eq_true rfl, rfl⟩ (by omega) hok.r).mono ?_
    rintro e' w' ⟨rfl, hm⟩
    exact ⟨_, rfl, goes_tick rfl (0, undef) rfl hm⟩
  ·
   intro e a2 w2 hz2 hd hG hO hM
   have hd2 := hd.trans hd1
   have g0_2 := (hO 0 rfl).trans g0_1
   have g1_2 := (hO 1 rfl).trans g1_1
   have hM2 : Mem (walkC m pw (md2 m σ c).2 :: boxC b #[.int .u8 rk, .int .u8 cm.kind, .int .u8 cm.tick.c, .int .u64 cm.tick.r, .int .u8 cm.at_, .string cm.name, vl, .int .i64 cm.fare, vt, .int .i64 cm.penalty, .int .i64 cm.amount, .int .u8 rf, .int .u64 rn, .int .u8 ((md1 m σ c).1), .int .u8 ((md2 m σ c).1.c), .int .u64 ((md2 m σ c).1.r), .int .u8 c.at_, .int .u8 c.leg.c, .int .u16 c.leg.f, .int .u32 c.leg.x, .int .i64 c.value, .int .u8 c.status, .int .u32 c.nonce, .int .i64 c.amount, .int .i64 c.code] :: R) w2 := hM
   clear hM hG hO hd
   clear hz1 hd1 hM1 g0_1 g1_1
   refine then_n ?_
   refine wp_seq ?_
   refine region_seq 55 (fun zz e => (#[.pointer (some ⟨pw, 0, none⟩), .pointer (some ⟨b, 13, none⟩), .pointer (some ⟨b, 13, none⟩), .pointer (some ⟨b, 14, none⟩), .pointer (some ⟨b, 16, none⟩), .tuple #[]] : Array Value).getD zz undef) (fun k e w => Mem (List.getD [walkC m pw (md2 m σ c).2 :: boxC b #[.int .u8 rk, .int .u8 cm.kind, .int .u8 cm.tick.c, .int .u64 cm.tick.r, .int .u8 cm.at_, .string cm.name, vl, .int .i64 cm.fare, vt, .int .i64 cm.penalty, .int .i64 cm.amount, .int .u8 rf, .int .u64 rn, .int .u8 ((md1 m σ c).1), .int .u8 ((md2 m σ c).1.c), .int .u64 ((md2 m σ c).1.r), .int .u8 c.at_, .int .u8 c.leg.c, .int .u16 c.leg.f, .int .u32 c.leg.x, .int .i64 c.value, .int .u8 c.status, .int .u32 c.nonce, .int .i64 c.amount, .int .i64 c.code] :: R, walkC m pw (md3 m σ c).2 :: boxC b #[.int .u8 rk, .int .u8 cm.kind, .int .u8 cm.tick.c, .int .u64 cm.tick.r, .int .u8 cm.at_, .string cm.name, vl, .int .i64 cm.fare, vt, .int .i64 cm.penalty, .int .i64 cm.amount, .int .u8 rf, .int .u64 rn, .int .u8 ((md1 m σ c).1), .int .u8 ((md2 m σ c).1.c), .int .u64 ((md2 m σ c).1.r), .int .u8 ((md3 m σ c).1), .int .u8 c.leg.c, .int .u16 c.leg.f, .int .u32 c.leg.x, .int .i64 c.value, .int .u8 c.status, .int .u32 c.nonce, .int .i64 c.amount, .int .i64 c.code] :: R] k []) w) (fun _ => (0, undef)) [5] [0, 0, 0, 0, 0, 0] (fun _ _ => false) hz2 (by kernel_rfl) (by kernel_rfl) (by kernel_rfl) ?_ (show Mem _ _ from hM2) ?_ ?_
   · exact ⟨fun _ _ _ => rfl, fun _ _ _ => rfl, fun _ _ _ => rfl, fun _ _ _ => rfl, fun _ _ _ => rfl, fun _ _ _ => rfl, trivial⟩
   ·
    refine ⟨?_, ?_, ?_, ?_, ?_, ?_, trivial⟩
    · exact op2 (a := 0) rfl fun e w ρ (hM : Mem _ w) E => res_ok (x_move rfl (E.o 0 _ rfl g0_2)) (goes_still rfl rfl hM)
    · exact op2 (a := 0) rfl fun e w ρ (hM : Mem _ w) E => res_ok (x_move rfl (E.o 1 _ rfl g1_2)) (goes_still rfl rfl hM)
    · exact op2 (a := 0) rfl fun e w ρ (hM : Mem _ w) E => res_ok (x_nil rfl (E.d 1 _ 16 rfl rfl rfl)) (goes_still rfl rfl hM)
    · exact op2 (a := 0) rfl fun e w ρ (hM : Mem _ w) E => res_ok (x_fieldAddr (off := 1) rfl (E.d 2 _ 17 rfl rfl rfl) (by kernel_rfl) rfl) (goes_still rfl rfl hM)
    · exact op2 (a := 0) rfl fun e w ρ (hM : Mem _ w) E => res_ok (x_fieldAddr (off := 2) rfl (E.d 3 _ 18 rfl rfl rfl) (by kernel_rfl) rfl) (goes_still rfl rfl hM)
    ·
     refine op2 (a := 0) rfl fun e w ρ (hM : Mem _ w) E => ?_
     have e15 : ρ (.tmp 15) = .pointer (some ⟨pw, 0, none⟩) := E.d 0 _ 15 rfl rfl rfl
     have e19 : ρ (.tmp 19) = .pointer (some ⟨b, 16, none⟩) := E.d 4 _ 19 rfl rfl rfl
     refine res_in (x_call (args := #[.pointer (some ⟨pw, 0, none⟩), .pointer (some ⟨b, 16, none⟩), .int .i64 1]) rfl rfl (E.f _) (by simp [e15, e19, E.c]) (by kernel_rfl)) ?_
     refine (seg_uint8 m pw (md2 m σ c).2 none b 16 #[.int .u8 rk, .int .u8 cm.kind, .int .u8 cm.tick.c, .int .u64 cm.tick.r, .int .u8 cm.at_, .string cm.name, vl, .int .i64 cm.fare, vt, .int .i64 cm.penalty, .int .i64 cm.amount, .int .u8 rf, .int .u64 rn, .int .u8 ((md1 m σ c).1), .int .u8 ((md2 m σ c).1.c), .int .u64 ((md2 m σ c).1.r), .int .u8 c.at_, .int .u8 c.leg.c, .int .u16 c.leg.f, .int .u32 c.leg.x, .int .i64 c.value, .int .u8 c.status, .int .u32 c.nonce, .int .i64 c.amount, .int .i64 c.code] c.at_ 1 _ _ ((hM.front 1 rfl).front 1 rfl) ⟨Nat.le_of_ble_eq_true rfl, rfl⟩ (by decide) (by omega)).mono ?_
     rintro e' w' ⟨rfl, hm⟩
     exact ⟨_, rfl, goes_tick rfl (0, undef) rfl hm⟩
   ·
    intro e a3 w3 hz3 hd hG hO hM
    have hd3 := hd.trans hd2
    have g0_3 := (hO 0 rfl).trans g0_2
    have g1_3 := (hO 1 rfl).trans g1_2
    have hM3 : Mem (walkC m pw (md3 m σ c).2 :: boxC b #[.int .u8 rk, .int .u8 cm.kind, .int .u8 cm.tick.c, .int .u64 cm.tick.r, .int .u8 cm.at_, .string cm.name, vl, .int .i64 cm.fare, vt, .int .i64 cm.penalty, .int .i64 cm.amount, .int .u8 rf, .int .u64 rn, .int .u8 ((md1 m σ c).1), .int .u8 ((md2 m σ c).1.c), .int .u64 ((md2 m σ c).1.r), .int .u8 ((md3 m σ c).1), .int .u8 c.leg.c, .int .u16 c.leg.f, .int .u32 c.leg.x, .int .i64 c.value, .int .u8 c.status, .int .u32 c.nonce, .int .i64 c.amount, .int .i64 c.code] :: R) w3 := hM
    clear hM hG hO hd
    clear hz2 hd2 hM2 g0_2 g1_2
    refine then_n ?_
    refine wp_seq ?_
    refine region_seq 55 (fun zz e => (#[.pointer (some ⟨pw, 0, none⟩), .pointer (some ⟨b, 13, none⟩), .pointer (some ⟨b, 13, none⟩), .pointer (some ⟨b, 17, none⟩), .pointer (some ⟨b, 17, none⟩), .tuple #[]] : Array Value).getD zz undef) (fun k e w => Mem (List.getD [walkC m pw (md3 m σ c).2 :: boxC b #[.int .u8 rk, .int .u8 cm.kind, .int .u8 cm.tick.c, .int .u64 cm.tick.r, .int .u8 cm.at_, .string cm.name, vl, .int .i64 cm.fare, vt, .int .i64 cm.penalty, .int .i64 cm.amount, .int .u8 rf, .int .u64 rn, .int .u8 ((md1 m σ c).1), .int .u8 ((md2 m σ c).1.c), .int .u64 ((md2 m σ c).1.r), .int .u8 ((md3 m σ c).1), .int .u8 c.leg.c, .int .u16 c.leg.f, .int .u32 c.leg.x, .int .i64 c.value, .int .u8 c.status, .int .u32 c.nonce, .int .i64 c.amount, .int .i64 c.code] :: R, walkC m pw (md4 m σ c).2 :: boxC b #[.int .u8 rk, .int .u8 cm.kind, .int .u8 cm.tick.c, .int .u64 cm.tick.r, .int .u8 cm.at_, .string cm.name, vl, .int .i64 cm.fare, vt, .int .i64 cm.penalty, .int .i64 cm.amount, .int .u8 rf, .int .u64 rn, .int .u8 ((md1 m σ c).1), .int .u8 ((md2 m σ c).1.c), .int .u64 ((md2 m σ c).1.r), .int .u8 ((md3 m σ c).1), .int .u8 ((md4 m σ c).1.c), .int .u16 ((md4 m σ c).1.f), .int .u32 ((md4 m σ c).1.x), .int .i64 c.value, .int .u8 c.status, .int .u32 c.nonce, .int .i64 c.amount, .int .i64 c.code] :: R] k []) w) (fun _ => (0, undef)) [5] [0, 0, 0, 0, 0, 0] (fun _ _ => false) hz3 (by kernel_rfl) (by kernel_rfl) (by kernel_rfl) ?_ (show Mem _ _ from hM3) ?_ ?_
    · exact ⟨fun _ _ _ => rfl, fun _ _ _ => rfl, fun _ _ _ => rfl, fun _ _ _ => rfl, fun _ _ _ => rfl, fun _ _ _ => rfl, trivial⟩
    ·
     refine ⟨?_, ?_, ?_, ?_, ?_, ?_, trivial⟩
     · exact op2 (a := 0) rfl fun e w ρ (hM : Mem _ w) E => res_ok (x_move rfl (E.o 0 _ rfl g0_3)) (goes_still rfl rfl hM)
     · exact op2 (a := 0) rfl fun e w ρ (hM : Mem _ w) E => res_ok (x_move rfl (E.o 1 _ rfl g1_3)) (goes_still rfl rfl hM)
     · exact op2 (a := 0) rfl fun e w ρ (hM : Mem _ w) E => res_ok (x_nil rfl (E.d 1 _ 22 rfl rfl rfl)) (goes_still rfl rfl hM)
     · exact op2 (a := 0) rfl fun e w ρ (hM : Mem _ w) E => res_ok (x_fieldAddr (off := 4) rfl (E.d 2 _ 23 rfl rfl rfl) (by kernel_rfl) rfl) (goes_still rfl rfl hM)
     · exact op2 (a := 0) rfl fun e w ρ (hM : Mem _ w) E => res_ok (x_fieldAddr (off := 0) rfl (E.d 3 _ 24 rfl rfl rfl) (by kernel_rfl) rfl) (goes_still rfl rfl hM)
     ·
      refine op2 (a := 0) rfl fun e w ρ (hM : Mem _ w) E => ?_
      have e21 : ρ (.tmp 21) = .pointer (some ⟨pw, 0, none⟩) := E.d 0 _ 21 rfl rfl rfl
      have e25 : ρ (.tmp 25) = .pointer (some ⟨b, 17, none⟩) := E.d 4 _ 25 rfl rfl rfl
      refine res_in (x_call (args := #[.pointer (some ⟨pw, 0, none⟩), .pointer (some ⟨b, 17, none⟩)]) rfl rfl (E.f _) (by simp [e21, e25]) (by kernel_rfl)) ?_
      refine (leg_at m pw (md3 m σ c).2 none b 17 #[.int .u8 rk, .int .u8 cm.kind, .int .u8 cm.tick.c, .int .u64 cm.tick.r, .int .u8 cm.at_, .string cm.name, vl, .int .i64 cm.fare, vt, .int .i64 cm.penalty, .int .i64 cm.amount, .int .u8 rf, .int .u64 rn, .int .u8 ((md1 m σ c).1), .int .u8 ((md2 m σ c).1.c), .int .u64 ((md2 m σ c).1.r), .int .u8 ((md3 m σ c).1), .int .u8 c.leg.c, .int .u16 c.leg.f, .int .u32 c.leg.x, .int .i64 c.value, .int .u8 c.status, .int .u32 c.nonce, .int .i64 c.amount, .int .i64 c.code] c.leg _ _ ((hM.front 1 rfl).front 1 rfl) ⟨Nat.le_of_ble_eq_true rfl, rfl⟩ (by omega)).mono ?_
      rintro e' w' ⟨rfl, hm⟩
      exact ⟨_, rfl, goes_tick rfl (0, undef) rfl hm⟩
    ·
     intro e a4 w4 hz4 hd hG hO hM
     have hd4 := hd.trans hd3
     have g0_4 := (hO 0 rfl).trans g0_3
     have g1_4 := (hO 1 rfl).trans g1_3
     have hM4 : Mem (walkC m pw (md4 m σ c).2 :: boxC b #[.int .u8 rk, .int .u8 cm.kind, .int .u8 cm.tick.c, .int .u64 cm.tick.r, .int .u8 cm.at_, .string cm.name, vl, .int .i64 cm.fare, vt, .int .i64 cm.penalty, .int .i64 cm.amount, .int .u8 rf, .int .u64 rn, .int .u8 ((md1 m σ c).1), .int .u8 ((md2 m σ c).1.c), .int .u64 ((md2 m σ c).1.r), .int .u8 ((md3 m σ c).1), .int .u8 ((md4 m σ c).1.c), .int .u16 ((md4 m σ c).1.f), .int .u32 ((md4 m σ c).1.x), .int .i64 c.value, .int .u8 c.status, .int .u32 c.nonce, .int .i64 c.amount, .int .i64 c.code] :: R) w4 := hM
     clear hM hG hO hd
     clear hz3 hd3 hM3 g0_3 g1_3
     refine then_n ?_
     refine wp_seq ?_
     refine region_seq 55 (fun zz e => (#[.pointer (some ⟨pw, 0, none⟩), .pointer (some ⟨b, 13, none⟩), .pointer (some ⟨b, 13, none⟩), .pointer (some ⟨b, 17, none⟩), .pointer (some ⟨b, 20, none⟩), .tuple #[]] : Array Value).getD zz undef) (fun k e w => Mem (List.getD [walkC m pw (md4 m σ c).2 :: boxC b #[.int .u8 rk, .int .u8 cm.kind, .int .u8 cm.tick.c, .int .u64 cm.tick.r, .int .u8 cm.at_, .string cm.name, vl, .int .i64 cm.fare, vt, .int .i64 cm.penalty, .int .i64 cm.amount, .int .u8 rf, .int .u64 rn, .int .u8 ((md1 m σ c).1), .int .u8 ((md2 m σ c).1.c), .int .u64 ((md2 m σ c).1.r), .int .u8 ((md3 m σ c).1), .int .u8 ((md4 m σ c).1.c), .int .u16 ((md4 m σ c).1.f), .int .u32 ((md4 m σ c).1.x), .int .i64 c.value, .int .u8 c.status, .int .u32 c.nonce, .int .i64 c.amount, .int .i64 c.code] :: R, walkC m pw (md5 m σ c).2 :: boxC b #[.int .u8 rk, .int .u8 cm.kind, .int .u8 cm.tick.c, .int .u64 cm.tick.r, .int .u8 cm.at_, .string cm.name, vl, .int .i64 cm.fare, vt, .int .i64 cm.penalty, .int .i64 cm.amount, .int .u8 rf, .int .u64 rn, .int .u8 ((md1 m σ c).1), .int .u8 ((md2 m σ c).1.c), .int .u64 ((md2 m σ c).1.r), .int .u8 ((md3 m σ c).1), .int .u8 ((md4 m σ c).1.c), .int .u16 ((md4 m σ c).1.f), .int .u32 ((md4 m σ c).1.x), .int .i64 ((md5 m σ c).1), .int .u8 c.status, .int .u32 c.nonce, .int .i64 c.amount, .int .i64 c.code] :: R] k []) w) (fun _ => (0, undef)) [5] [0, 0, 0, 0, 0, 0] (fun _ _ => false) hz4 (by kernel_rfl) (by kernel_rfl) (by kernel_rfl) ?_ (show Mem _ _ from hM4) ?_ ?_
     · exact ⟨fun _ _ _ => rfl, fun _ _ _ => rfl, fun _ _ _ => rfl, fun _ _ _ => rfl, fun _ _ _ => rfl, fun _ _ _ => rfl, trivial⟩
     ·
      refine ⟨?_, ?_, ?_, ?_, ?_, ?_, trivial⟩
      · exact op2 (a := 0) rfl fun e w ρ (hM : Mem _ w) E => res_ok (x_move rfl (E.o 0 _ rfl g0_4)) (goes_still rfl rfl hM)
      · exact op2 (a := 0) rfl fun e w ρ (hM : Mem _ w) E => res_ok (x_move rfl (E.o 1 _ rfl g1_4)) (goes_still rfl rfl hM)
      · exact op2 (a := 0) rfl fun e w ρ (hM : Mem _ w) E => res_ok (x_nil rfl (E.d 1 _ 28 rfl rfl rfl)) (goes_still rfl rfl hM)
      · exact op2 (a := 0) rfl fun e w ρ (hM : Mem _ w) E => res_ok (x_fieldAddr (off := 4) rfl (E.d 2 _ 29 rfl rfl rfl) (by kernel_rfl) rfl) (goes_still rfl rfl hM)
      · exact op2 (a := 0) rfl fun e w ρ (hM : Mem _ w) E => res_ok (x_fieldAddr (off := 3) rfl (E.d 3 _ 30 rfl rfl rfl) (by kernel_rfl) rfl) (goes_still rfl rfl hM)
      ·
       refine op2 (a := 0) rfl fun e w ρ (hM : Mem _ w) E => ?_
       have e27 : ρ (.tmp 27) = .pointer (some ⟨pw, 0, none⟩) := E.d 0 _ 27 rfl rfl rfl
       have e31 : ρ (.tmp 31) = .pointer (some ⟨b, 20, none⟩) := E.d 4 _ 31 rfl rfl rfl
       refine res_in (x_call (args := #[.pointer (some ⟨pw, 0, none⟩), .pointer (some ⟨b, 20, none⟩), .int .i64 8]) rfl rfl (E.f _) (by simp [e27, e31, E.c]) (by kernel_rfl)) ?_
       refine (seg_int64 m pw (md4 m σ c).2 none b 20 #[.int .u8 rk, .int .u8 cm.kind, .int .u8 cm.tick.c, .int .u64 cm.tick.r, .int .u8 cm.at_, .string cm.name, vl, .int .i64 cm.fare, vt, .int .i64 cm.penalty, .int .i64 cm.amount, .int .u8 rf, .int .u64 rn, .int .u8 ((md1 m σ c).1), .int .u8 ((md2 m σ c).1.c), .int .u64 ((md2 m σ c).1.r), .int .u8 ((md3 m σ c).1), .int .u8 ((md4 m σ c).1.c), .int .u16 ((md4 m σ c).1.f), .int .u32 ((md4 m σ c).1.x), .int .i64 c.value, .int .u8 c.status, .int .u32 c.nonce, .int .i64 c.amount, .int .i64 c.code] c.value 8 _ _ ((hM.front 1 rfl).front 1 rfl) ⟨Nat.le_of_ble_eq_true rfl, rfl⟩ (by decide) (by omega)).mono ?_
       rintro e' w' ⟨rfl, hm⟩
       exact ⟨_, rfl, goes_tick rfl (0, undef) rfl hm⟩
     ·
      intro e a5 w5 hz5 hd hG hO hM
      have hd5 := hd.trans hd4
      have g0_5 := (hO 0 rfl).trans g0_4
      have g1_5 := (hO 1 rfl).trans g1_4
      have hM5 : Mem (walkC m pw (md5 m σ c).2 :: boxC b #[.int .u8 rk, .int .u8 cm.kind, .int .u8 cm.tick.c, .int .u64 cm.tick.r, .int .u8 cm.at_, .string cm.name, vl, .int .i64 cm.fare, vt, .int .i64 cm.penalty, .int .i64 cm.amount, .int .u8 rf, .int .u64 rn, .int .u8 ((md1 m σ c).1), .int .u8 ((md2 m σ c).1.c), .int .u64 ((md2 m σ c).1.r), .int .u8 ((md3 m σ c).1), .int .u8 ((md4 m σ c).1.c), .int .u16 ((md4 m σ c).1.f), .int .u32 ((md4 m σ c).1.x), .int .i64 ((md5 m σ c).1), .int .u8 c.status, .int .u32 c.nonce, .int .i64 c.amount, .int .i64 c.code] :: R) w5 := hM
      clear hM hG hO hd
      clear hz4 hd4 hM4 g0_4 g1_4
      refine then_n ?_
      refine wp_seq ?_
      refine region_seq 55 (fun zz e => (#[.pointer (some ⟨pw, 0, none⟩), .pointer (some ⟨b, 13, none⟩), .pointer (some ⟨b, 13, none⟩), .pointer (some ⟨b, 17, none⟩), .pointer (some ⟨b, 21, none⟩), .tuple #[]] : Array Value).getD zz undef) (fun k e w => Mem (List.getD [walkC m pw (md5 m σ c).2 :: boxC b #[.int .u8 rk, .int .u8 cm.kind, .int .u8 cm.tick.c, .int .u64 cm.tick.r, .int .u8 cm.at_, .string cm.name, vl, .int .i64 cm.fare, vt, .int .i64 cm.penalty, .int .i64 cm.amount, .int .u8 rf, .int .u64 rn, .int .u8 ((md1 m σ c).1), .int .u8 ((md2 m σ c).1.c), .int .u64 ((md2 m σ c).1.r), .int .u8 ((md3 m σ c).1), .int .u8 ((md4 m σ c).1.c), .int .u16 ((md4 m σ c).1.f), .int .u32 ((md4 m σ c).1.x), .int .i64 ((md5 m σ c).1), .int .u8 c.status, .int .u32 c.nonce, .int .i64 c.amount, .int .i64 c.code] :: R, walkC m pw (md6 m σ c).2 :: boxC b #[.int .u8 rk, .int .u8 cm.kind, .int .u8 cm.tick.c, .int .u64 cm.tick.r, .int .u8 cm.at_, .string cm.name, vl, .int .i64 cm.fare, vt, .int .i64 cm.penalty, .int .i64 cm.amount, .int .u8 rf, .int .u64 rn, .int .u8 ((md1 m σ c).1), .int .u8 ((md2 m σ c).1.c), .int .u64 ((md2 m σ c).1.r), .int .u8 ((md3 m σ c).1), .int .u8 ((md4 m σ c).1.c), .int .u16 ((md4 m σ c).1.f), .int .u32 ((md4 m σ c).1.x), .int .i64 ((md5 m σ c).1), .int .u8 ((md6 m σ c).1), .int .u32 c.nonce, .int .i64 c.amount, .int .i64 c.code] :: R] k []) w) (fun _ => (0, undef)) [5] [0, 0, 0, 0, 0, 0] (fun _ _ => false) hz5 (by kernel_rfl) (by kernel_rfl) (by kernel_rfl) ?_ (show Mem _ _ from hM5) ?_ ?_
      · exact ⟨fun _ _ _ => rfl, fun _ _ _ => rfl, fun _ _ _ => rfl, fun _ _ _ => rfl, fun _ _ _ => rfl, fun _ _ _ => rfl, trivial⟩
      ·
       refine ⟨?_, ?_, ?_, ?_, ?_, ?_, trivial⟩
       · exact op2 (a := 0) rfl fun e w ρ (hM : Mem _ w) E => res_ok (x_move rfl (E.o 0 _ rfl g0_5)) (goes_still rfl rfl hM)
       · exact op2 (a := 0) rfl fun e w ρ (hM : Mem _ w) E => res_ok (x_move rfl (E.o 1 _ rfl g1_5)) (goes_still rfl rfl hM)
       · exact op2 (a := 0) rfl fun e w ρ (hM : Mem _ w) E => res_ok (x_nil rfl (E.d 1 _ 34 rfl rfl rfl)) (goes_still rfl rfl hM)
       · exact op2 (a := 0) rfl fun e w ρ (hM : Mem _ w) E => res_ok (x_fieldAddr (off := 4) rfl (E.d 2 _ 35 rfl rfl rfl) (by kernel_rfl) rfl) (goes_still rfl rfl hM)
       · exact op2 (a := 0) rfl fun e w ρ (hM : Mem _ w) E => res_ok (x_fieldAddr (off := 4) rfl (E.d 3 _ 36 rfl rfl rfl) (by kernel_rfl) rfl) (goes_still rfl rfl hM)
       ·
        refine op2 (a := 0) rfl fun e w ρ (hM : Mem _ w) E => ?_
        have e33 : ρ (.tmp 33) = .pointer (some ⟨pw, 0, none⟩) := E.d 0 _ 33 rfl rfl rfl
        have e37 : ρ (.tmp 37) = .pointer (some ⟨b, 21, none⟩) := E.d 4 _ 37 rfl rfl rfl
        refine res_in (x_call (args := #[.pointer (some ⟨pw, 0, none⟩), .pointer (some ⟨b, 21, none⟩), .int .i64 1]) rfl rfl (E.f _) (by simp [e33, e37, E.c]) (by kernel_rfl)) ?_
        refine (seg_Status m pw (md5 m σ c).2 none b 21 #[.int .u8 rk, .int .u8 cm.kind, .int .u8 cm.tick.c, .int .u64 cm.tick.r, .int .u8 cm.at_, .string cm.name, vl, .int .i64 cm.fare, vt, .int .i64 cm.penalty, .int .i64 cm.amount, .int .u8 rf, .int .u64 rn, .int .u8 ((md1 m σ c).1), .int .u8 ((md2 m σ c).1.c), .int .u64 ((md2 m σ c).1.r), .int .u8 ((md3 m σ c).1), .int .u8 ((md4 m σ c).1.c), .int .u16 ((md4 m σ c).1.f), .int .u32 ((md4 m σ c).1.x), .int .i64 ((md5 m σ c).1), .int .u8 c.status, .int .u32 c.nonce, .int .i64 c.amount, .int .i64 c.code] c.status 1 _ _ ((hM.front 1 rfl).front 1 rfl) ⟨Nat.le_of_ble_eq_true rfl, rfl⟩ (by decide) (by omega)).mono ?_
        rintro e' w' ⟨rfl, hm⟩
        exact ⟨_, rfl, goes_tick rfl (0, undef) rfl hm⟩
      ·
       intro e a6 w6 hz6 hd hG hO hM
       have hd6 := hd.trans hd5
       have g0_6 := (hO 0 rfl).trans g0_5
       have g1_6 := (hO 1 rfl).trans g1_5
       have hM6 : Mem (walkC m pw (md6 m σ c).2 :: boxC b #[.int .u8 rk, .int .u8 cm.kind, .int .u8 cm.tick.c, .int .u64 cm.tick.r, .int .u8 cm.at_, .string cm.name, vl, .int .i64 cm.fare, vt, .int .i64 cm.penalty, .int .i64 cm.amount, .int .u8 rf, .int .u64 rn, .int .u8 ((md1 m σ c).1), .int .u8 ((md2 m σ c).1.c), .int .u64 ((md2 m σ c).1.r), .int .u8 ((md3 m σ c).1), .int .u8 ((md4 m σ c).1.c), .int .u16 ((md4 m σ c).1.f), .int .u32 ((md4 m σ c).1.x), .int .i64 ((md5 m σ c).1), .int .u8 ((md6 m σ c).1), .int .u32 c.nonce, .int .i64 c.amount, .int .i64 c.code] :: R) w6 := hM
       clear hM hG hO hd
       clear hz5 hd5 hM5 g0_5 g1_5
       refine then_n ?_
       refine wp_seq ?_
       refine region_seq 55 (fun zz e => (#[.pointer (some ⟨pw, 0, none⟩), .pointer (some ⟨b, 13, none⟩), .pointer (some ⟨b, 13, none⟩), .pointer (some ⟨b, 17, none⟩), .pointer (some ⟨b, 22, none⟩), .tuple #[]] : Array Value).getD zz undef) (fun k e w => Mem (List.getD [walkC m pw (md6 m σ c).2 :: boxC b #[.int .u8 rk, .int .u8 cm.kind, .int .u8 cm.tick.c, .int .u64 cm.tick.r, .int .u8 cm.at_, .string cm.name, vl, .int .i64 cm.fare, vt, .int .i64 cm.penalty, .int .i64 cm.amount, .int .u8 rf, .int .u64 rn, .int .u8 ((md1 m σ c).1), .int .u8 ((md2 m σ c).1.c), .int .u64 ((md2 m σ c).1.r), .int .u8 ((md3 m σ c).1), .int .u8 ((md4 m σ c).1.c), .int .u16 ((md4 m σ c).1.f), .int .u32 ((md4 m σ c).1.x), .int .i64 ((md5 m σ c).1), .int .u8 ((md6 m σ c).1), .int .u32 c.nonce, .int .i64 c.amount, .int .i64 c.code] :: R, walkC m pw (md7 m σ c).2 :: boxC b #[.int .u8 rk, .int .u8 cm.kind, .int .u8 cm.tick.c, .int .u64 cm.tick.r, .int .u8 cm.at_, .string cm.name, vl, .int .i64 cm.fare, vt, .int .i64 cm.penalty, .int .i64 cm.amount, .int .u8 rf, .int .u64 rn, .int .u8 ((md1 m σ c).1), .int .u8 ((md2 m σ c).1.c), .int .u64 ((md2 m σ c).1.r), .int .u8 ((md3 m σ c).1), .int .u8 ((md4 m σ c).1.c), .int .u16 ((md4 m σ c).1.f), .int .u32 ((md4 m σ c).1.x), .int .i64 ((md5 m σ c).1), .int .u8 ((md6 m σ c).1), .int .u32 ((md7 m σ c).1), .int .i64 c.amount, .int .i64 c.code] :: R] k []) w) (fun _ => (0, undef)) [5] [0, 0, 0, 0, 0, 0] (fun _ _ => false) hz6 (by kernel_rfl) (by kernel_rfl) (by kernel_rfl) ?_ (show Mem _ _ from hM6) ?_ ?_
       · exact ⟨fun _ _ _ => rfl, fun _ _ _ => rfl, fun _ _ _ => rfl, fun _ _ _ => rfl, fun _ _ _ => rfl, fun _ _ _ => rfl, trivial⟩
       ·
        refine ⟨?_, ?_, ?_, ?_, ?_, ?_, trivial⟩
        · exact op2 (a := 0) rfl fun e w ρ (hM : Mem _ w) E => res_ok (x_move rfl (E.o 0 _ rfl g0_6)) (goes_still rfl rfl hM)
        · exact op2 (a := 0) rfl fun e w ρ (hM : Mem _ w) E => res_ok (x_move rfl (E.o 1 _ rfl g1_6)) (goes_still rfl rfl hM)
        · exact op2 (a := 0) rfl fun e w ρ (hM : Mem _ w) E => res_ok (x_nil rfl (E.d 1 _ 40 rfl rfl rfl)) (goes_still rfl rfl hM)
        · exact op2 (a := 0) rfl fun e w ρ (hM : Mem _ w) E => res_ok (x_fieldAddr (off := 4) rfl (E.d 2 _ 41 rfl rfl rfl) (by kernel_rfl) rfl) (goes_still rfl rfl hM)
        · exact op2 (a := 0) rfl fun e w ρ (hM : Mem _ w) E => res_ok (x_fieldAddr (off := 5) rfl (E.d 3 _ 42 rfl rfl rfl) (by kernel_rfl) rfl) (goes_still rfl rfl hM)
        ·
         refine op2 (a := 0) rfl fun e w ρ (hM : Mem _ w) E => ?_
         have e39 : ρ (.tmp 39) = .pointer (some ⟨pw, 0, none⟩) := E.d 0 _ 39 rfl rfl rfl
         have e43 : ρ (.tmp 43) = .pointer (some ⟨b, 22, none⟩) := E.d 4 _ 43 rfl rfl rfl
         refine res_in (x_call (args := #[.pointer (some ⟨pw, 0, none⟩), .pointer (some ⟨b, 22, none⟩), .int .i64 4]) rfl rfl (E.f _) (by simp [e39, e43, E.c]) (by kernel_rfl)) ?_
         refine (seg_uint32 m pw (md6 m σ c).2 none b 22 #[.int .u8 rk, .int .u8 cm.kind, .int .u8 cm.tick.c, .int .u64 cm.tick.r, .int .u8 cm.at_, .string cm.name, vl, .int .i64 cm.fare, vt, .int .i64 cm.penalty, .int .i64 cm.amount, .int .u8 rf, .int .u64 rn, .int .u8 ((md1 m σ c).1), .int .u8 ((md2 m σ c).1.c), .int .u64 ((md2 m σ c).1.r), .int .u8 ((md3 m σ c).1), .int .u8 ((md4 m σ c).1.c), .int .u16 ((md4 m σ c).1.f), .int .u32 ((md4 m σ c).1.x), .int .i64 ((md5 m σ c).1), .int .u8 ((md6 m σ c).1), .int .u32 c.nonce, .int .i64 c.amount, .int .i64 c.code] c.nonce 4 _ _ ((hM.front 1 rfl).front 1 rfl) ⟨Nat.le_of_ble_eq_true rfl, rfl⟩ (by decide) (by omega)).mono ?_
         rintro e' w' ⟨rfl, hm⟩
         exact ⟨_, rfl, goes_tick rfl (0, undef) rfl hm⟩
       ·
        intro e a7 w7 hz7 hd hG hO hM
        have hd7 := hd.trans hd6
        have g0_7 := (hO 0 rfl).trans g0_6
        have g1_7 := (hO 1 rfl).trans g1_6
        have hM7 : Mem (walkC m pw (md7 m σ c).2 :: boxC b #[.int .u8 rk, .int .u8 cm.kind, .int .u8 cm.tick.c, .int .u64 cm.tick.r, .int .u8 cm.at_, .string cm.name, vl, .int .i64 cm.fare, vt, .int .i64 cm.penalty, .int .i64 cm.amount, .int .u8 rf, .int .u64 rn, .int .u8 ((md1 m σ c).1), .int .u8 ((md2 m σ c).1.c), .int .u64 ((md2 m σ c).1.r), .int .u8 ((md3 m σ c).1), .int .u8 ((md4 m σ c).1.c), .int .u16 ((md4 m σ c).1.f), .int .u32 ((md4 m σ c).1.x), .int .i64 ((md5 m σ c).1), .int .u8 ((md6 m σ c).1), .int .u32 ((md7 m σ c).1), .int .i64 c.amount, .int .i64 c.code] :: R) w7 := hM
        clear hM hG hO hd
        clear hz6 hd6 hM6 g0_6 g1_6
        refine then_n ?_
        refine wp_seq ?_
        refine region_seq 55 (fun zz e => (#[.pointer (some ⟨pw, 0, none⟩), .pointer (some ⟨b, 13, none⟩), .pointer (some ⟨b, 13, none⟩), .pointer (some ⟨b, 23, none⟩), .tuple #[]] : Array Value).getD zz undef) (fun k e w => Mem (List.getD [walkC m pw (md7 m σ c).2 :: boxC b #[.int .u8 rk, .int .u8 cm.kind, .int .u8 cm.tick.c, .int .u64 cm.tick.r, .int .u8 cm.at_, .string cm.name, vl, .int .i64 cm.fare, vt, .int .i64 cm.penalty, .int .i64 cm.amount, .int .u8 rf, .int .u64 rn, .int .u8 ((md1 m σ c).1), .int .u8 ((md2 m σ c).1.c), .int .u64 ((md2 m σ c).1.r), .int .u8 ((md3 m σ c).1), .int .u8 ((md4 m σ c).1.c), .int .u16 ((md4 m σ c).1.f), .int .u32 ((md4 m σ c).1.x), .int .i64 ((md5 m σ c).1), .int .u8 ((md6 m σ c).1), .int .u32 ((md7 m σ c).1), .int .i64 c.amount, .int .i64 c.code] :: R, walkC m pw (md8 m σ c).2 :: boxC b #[.int .u8 rk, .int .u8 cm.kind, .int .u8 cm.tick.c, .int .u64 cm.tick.r, .int .u8 cm.at_, .string cm.name, vl, .int .i64 cm.fare, vt, .int .i64 cm.penalty, .int .i64 cm.amount, .int .u8 rf, .int .u64 rn, .int .u8 ((md1 m σ c).1), .int .u8 ((md2 m σ c).1.c), .int .u64 ((md2 m σ c).1.r), .int .u8 ((md3 m σ c).1), .int .u8 ((md4 m σ c).1.c), .int .u16 ((md4 m σ c).1.f), .int .u32 ((md4 m σ c).1.x), .int .i64 ((md5 m σ c).1), .int .u8 ((md6 m σ c).1), .int .u32 ((md7 m σ c).1), .int .i64 ((md8 m σ c).1), .int .i64 c.code] :: R] k []) w) (fun _ => (0, undef)) [4] [0, 0, 0, 0, 0] (fun _ _ => false) hz7 (by kernel_rfl) (by kernel_rfl) (by kernel_rfl) ?_ (show Mem _ _ from hM7) ?_ ?_
        · exact ⟨fun _ _ _ => rfl, fun _ _ _ => rfl, fun _ _ _ => rfl, fun _ _ _ => rfl, fun _ _ _ => rfl, trivial⟩
        ·
         refine ⟨?_, ?_, ?_, ?_, ?_, trivial⟩
         · exact op2 (a := 0) rfl fun e w ρ (hM : Mem _ w) E => res_ok (x_move rfl (E.o 0 _ rfl g0_7)) (goes_still rfl rfl hM)
         · exact op2 (a := 0) rfl fun e w ρ (hM : Mem _ w) E => res_ok (x_move rfl (E.o 1 _ rfl g1_7)) (goes_still rfl rfl hM)
         · exact op2 (a := 0) rfl fun e w ρ (hM : Mem _ w) E => res_ok (x_nil rfl (E.d 1 _ 46 rfl rfl rfl)) (goes_still rfl rfl hM)
         · exact op2 (a := 0) rfl fun e w ρ (hM : Mem _ w) E => res_ok (x_fieldAddr (off := 10) rfl (E.d 2 _ 47 rfl rfl rfl) (by kernel_rfl) rfl) (goes_still rfl rfl hM)
         ·
          refine op2 (a := 0) rfl fun e w ρ (hM : Mem _ w) E => ?_
          have e45 : ρ (.tmp 45) = .pointer (some ⟨pw, 0, none⟩) := E.d 0 _ 45 rfl rfl rfl
          have e48 : ρ (.tmp 48) = .pointer (some ⟨b, 23, none⟩) := E.d 3 _ 48 rfl rfl rfl
          refine res_in (x_call (args := #[.pointer (some ⟨pw, 0, none⟩), .pointer (some ⟨b, 23, none⟩), .int .i64 8]) rfl rfl (E.f _) (by simp [e45, e48, E.c]) (by kernel_rfl)) ?_
          refine (seg_int64 m pw (md7 m σ c).2 none b 23 #[.int .u8 rk, .int .u8 cm.kind, .int .u8 cm.tick.c, .int .u64 cm.tick.r, .int .u8 cm.at_, .string cm.name, vl, .int .i64 cm.fare, vt, .int .i64 cm.penalty, .int .i64 cm.amount, .int .u8 rf, .int .u64 rn, .int .u8 ((md1 m σ c).1), .int .u8 ((md2 m σ c).1.c), .int .u64 ((md2 m σ c).1.r), .int .u8 ((md3 m σ c).1), .int .u8 ((md4 m σ c).1.c), .int .u16 ((md4 m σ c).1.f), .int .u32 ((md4 m σ c).1.x), .int .i64 ((md5 m σ c).1), .int .u8 ((md6 m σ c).1), .int .u32 ((md7 m σ c).1), .int .i64 c.amount, .int .i64 c.code] c.amount 8 _ _ ((hM.front 1 rfl).front 1 rfl) ⟨Nat.le_of_ble_eq_true rfl, rfl⟩ (by decide) (by omega)).mono ?_
          rintro e' w' ⟨rfl, hm⟩
          exact ⟨_, rfl, goes_tick rfl (0, undef) rfl hm⟩
        ·
         intro e a8 w8 hz8 hd hG hO hM
         have hd8 := hd.trans hd7
         have g0_8 := (hO 0 rfl).trans g0_7
         have g1_8 := (hO 1 rfl).trans g1_7
         have hM8 : Mem (walkC m pw (md8 m σ c).2 :: boxC b #[.int .u8 rk, .int .u8 cm.kind, .int .u8 cm.tick.c, .int .u64 cm.tick.r, .int .u8 cm.at_, .string cm.name, vl, .int .i64 cm.fare, vt, .int .i64 cm.penalty, .int .i64 cm.amount, .int .u8 rf, .int .u64 rn, .int .u8 ((md1 m σ c).1), .int .u8 ((md2 m σ c).1.c), .int .u64 ((md2 m σ c).1.r), .int .u8 ((md3 m σ c).1), .int .u8 ((md4 m σ c).1.c), .int .u16 ((md4 m σ c).1.f), .int .u32 ((md4 m σ c).1.x), .int .i64 ((md5 m σ c).1), .int .u8 ((md6 m σ c).1), .int .u32 ((md7 m σ c).1), .int .i64 ((md8 m σ c).1), .int .i64 c.code] :: R) w8 := hM
         clear hM hG hO hd
         clear hz7 hd7 hM7 g0_7 g1_7
         refine then_n ?_
         refine region_seq 55 (fun zz e => (#[.pointer (some ⟨pw, 0, none⟩), .pointer (some ⟨b, 13, none⟩), .pointer (some ⟨b, 13, none⟩), .pointer (some ⟨b, 24, none⟩), .tuple #[]] : Array Value).getD zz undef) (fun k e w => Mem (List.getD [walkC m pw (md8 m σ c).2 :: boxC b #[.int .u8 rk, .int .u8 cm.kind, .int .u8 cm.tick.c, .int .u64 cm.tick.r, .int .u8 cm.at_, .string cm.name, vl, .int .i64 cm.fare, vt, .int .i64 cm.penalty, .int .i64 cm.amount, .int .u8 rf, .int .u64 rn, .int .u8 ((md1 m σ c).1), .int .u8 ((md2 m σ c).1.c), .int .u64 ((md2 m σ c).1.r), .int .u8 ((md3 m σ c).1), .int .u8 ((md4 m σ c).1.c), .int .u16 ((md4 m σ c).1.f), .int .u32 ((md4 m σ c).1.x), .int .i64 ((md5 m σ c).1), .int .u8 ((md6 m σ c).1), .int .u32 ((md7 m σ c).1), .int .i64 ((md8 m σ c).1), .int .i64 c.code] :: R, walkC m pw (md9 m σ c).2 :: boxC b #[.int .u8 rk, .int .u8 cm.kind, .int .u8 cm.tick.c, .int .u64 cm.tick.r, .int .u8 cm.at_, .string cm.name, vl, .int .i64 cm.fare, vt, .int .i64 cm.penalty, .int .i64 cm.amount, .int .u8 rf, .int .u64 rn, .int .u8 ((md1 m σ c).1), .int .u8 ((md2 m σ c).1.c), .int .u64 ((md2 m σ c).1.r), .int .u8 ((md3 m σ c).1), .int .u8 ((md4 m σ c).1.c), .int .u16 ((md4 m σ c).1.f), .int .u32 ((md4 m σ c).1.x), .int .i64 ((md5 m σ c).1), .int .u8 ((md6 m σ c).1), .int .u32 ((md7 m σ c).1), .int .i64 ((md8 m σ c).1), .int .i64 ((md9 m σ c).1)] :: R] k []) w) (fun _ => (0, undef)) [4] [0, 0, 0, 0, 0] (fun _ _ => false) hz8 (by kernel_rfl) (by kernel_rfl) (by kernel_rfl) ?_ (show Mem _ _ from hM8) ?_ ?_
         · exact ⟨fun _ _ _ => rfl, fun _ _ _ => rfl, fun _ _ _ => rfl, fun _ _ _ => rfl, fun _ _ _ => rfl, trivial⟩
         ·
          refine ⟨?_, ?_, ?_, ?_, ?_, trivial⟩
          · exact op2 (a := 0) rfl fun e w ρ (hM : Mem _ w) E => res_ok (x_move rfl (E.o 0 _ rfl g0_8)) (goes_still rfl rfl hM)
          · exact op2 (a := 0) rfl fun e w ρ (hM : Mem _ w) E => res_ok (x_move rfl (E.o 1 _ rfl g1_8)) (goes_still rfl rfl hM)
          · exact op2 (a := 0) rfl fun e w ρ (hM : Mem _ w) E => res_ok (x_nil rfl (E.d 1 _ 51 rfl rfl rfl)) (goes_still rfl rfl hM)
          · exact op2 (a := 0) rfl fun e w ρ (hM : Mem _ w) E => res_ok (x_fieldAddr (off := 11) rfl (E.d 2 _ 52 rfl rfl rfl) (by kernel_rfl) rfl) (goes_still rfl rfl hM)
          ·
           refine op2 (a := 0) rfl fun e w ρ (hM : Mem _ w) E => ?_
           have e50 : ρ (.tmp 50) = .pointer (some ⟨pw, 0, none⟩) := E.d 0 _ 50 rfl rfl rfl
           have e53 : ρ (.tmp 53) = .pointer (some ⟨b, 24, none⟩) := E.d 3 _ 53 rfl rfl rfl
           refine res_in (x_call (args := #[.pointer (some ⟨pw, 0, none⟩), .pointer (some ⟨b, 24, none⟩), .int .i64 8]) rfl rfl (E.f _) (by simp [e50, e53, E.c]) (by kernel_rfl)) ?_
           refine (seg_Errno m pw (md8 m σ c).2 none b 24 #[.int .u8 rk, .int .u8 cm.kind, .int .u8 cm.tick.c, .int .u64 cm.tick.r, .int .u8 cm.at_, .string cm.name, vl, .int .i64 cm.fare, vt, .int .i64 cm.penalty, .int .i64 cm.amount, .int .u8 rf, .int .u64 rn, .int .u8 ((md1 m σ c).1), .int .u8 ((md2 m σ c).1.c), .int .u64 ((md2 m σ c).1.r), .int .u8 ((md3 m σ c).1), .int .u8 ((md4 m σ c).1.c), .int .u16 ((md4 m σ c).1.f), .int .u32 ((md4 m σ c).1.x), .int .i64 ((md5 m σ c).1), .int .u8 ((md6 m σ c).1), .int .u32 ((md7 m σ c).1), .int .i64 ((md8 m σ c).1), .int .i64 c.code] c.code 8 _ _ ((hM.front 1 rfl).front 1 rfl) ⟨Nat.le_of_ble_eq_true rfl, rfl⟩ (by decide) (by omega)).mono ?_
           rintro e' w' ⟨rfl, hm⟩
           exact ⟨_, rfl, goes_tick rfl (0, undef) rfl hm⟩
         ·
          intro e a9 w9 hz9 hd hG hO hM
          have hd9 := hd.trans hd8
          have hM9 : Mem (walkC m pw (md9 m σ c).2 :: boxC b #[.int .u8 rk, .int .u8 cm.kind, .int .u8 cm.tick.c, .int .u64 cm.tick.r, .int .u8 cm.at_, .string cm.name, vl, .int .i64 cm.fare, vt, .int .i64 cm.penalty, .int .i64 cm.amount, .int .u8 rf, .int .u64 rn, .int .u8 ((md1 m σ c).1), .int .u8 ((md2 m σ c).1.c), .int .u64 ((md2 m σ c).1.r), .int .u8 ((md3 m σ c).1), .int .u8 ((md4 m σ c).1.c), .int .u16 ((md4 m σ c).1.f), .int .u32 ((md4 m σ c).1.x), .int .i64 ((md5 m σ c).1), .int .u8 ((md6 m σ c).1), .int .u32 ((md7 m σ c).1), .int .i64 ((md8 m σ c).1), .int .i64 ((md9 m σ c).1)] :: R) w9 := hM
          clear hM hG hO hd
          clear hz8 hd8 hM8 g0_8 g1_8
          refine end_r ?_
          refine ret_0 Try.results43 hd9 ?_
          exact ⟨rfl, ((hM9.front 1 rfl).front 1 rfl)⟩
def ov1 (m : Md) (σ : WS) (r : RecV) := fld .u8 m σ r.kind 1
def ov2 (m : Md) (σ : WS) (r : RecV) := fld .u8 m (ov1 m σ r).2 r.frm 1
def ov3 (m : Md) (σ : WS) (r : RecV) := num m (ov2 m σ r).2 r.number 8
def overF (m : Md) (σ : WS) (r : RecV) : RecV × WS :=
 if (ov1 m σ r).1 = 1 then ({ r with kind := (ov1 m σ r).1, cmd := (cmdF m (ov1 m σ r).2 r.cmd).1 }, (cmdF m (ov1 m σ r).2 r.cmd).2)
 else if (ov1 m σ r).1 = 2 then ({ r with kind := (ov1 m σ r).1, frm := (ov2 m σ r).1, number := (ov3 m σ r).1, msg := (msgF m (ov3 m σ r).2 r.msg).1 }, (msgF m (ov3 m σ r).2 r.msg).2)
 else if (ov1 m σ r).1 = 3 then ({ r with kind := (ov1 m σ r).1, frm := (ov2 m σ r).1, number := (ov3 m σ r).1 }, (ov3 m σ r).2)
 else ({ r with kind := (ov1 m σ r).1 }, ⟨true, (ov1 m σ r).2.bs⟩)
structure RecOk (m : Md) (r : RecV) : Prop where
 c : CmdOk m r.cmd
 g : MsgOk r.msg
 n : 0 ≤ r.number ∧ r.number ≤ 18446744073709551615
def recC (b : Nat) (r : RecV) : Chunk := exC fun vl => exC fun vt => allC [boxC b (recCells r vl vt), rowC 36 3 vl r.cmd.legs.length (cellsL legE r.cmd.legs), rowC 58 2 vt r.cmd.taxes.length (cellsL taxE r.cmd.taxes)]
theorem rec_open {b : Nat} {r : RecV} {R : List Chunk} {w : World} (h : Mem (recC b r :: R) w) : ∃ vl vt, Mem (boxC b (recCells r vl vt) :: rowC 36 3 vl r.cmd.legs.length (cellsL legE r.cmd.legs) :: rowC 58 2 vt r.cmd.taxes.length (cellsL taxE r.cmd.taxes) :: R) w := by
 obtain ⟨vl, h⟩ := h.ex
 obtain ⟨vt, h⟩ := h.ex
 exact ⟨vl, vt, h.all⟩
theorem rec_shut {b : Nat} {r : RecV} {vl vt : Value} {R : List Chunk} {w : World} (h : Mem (boxC b (recCells r vl vt) :: rowC 36 3 vl r.cmd.legs.length (cellsL legE r.cmd.legs) :: rowC 58 2 vt r.cmd.taxes.length (cellsL taxE r.cmd.taxes) :: R) w) : Mem (recC b r :: R) w :=
 Mem.in_ex vl (Mem.in_ex vt (Mem.in_all (l := [boxC b (recCells r vl vt), rowC 36 3 vl r.cmd.legs.length (cellsL legE r.cmd.legs), rowC 58 2 vt r.cmd.taxes.length (cellsL taxE r.cmd.taxes)]) h))
set_option maxRecDepth 100000 in
set_option maxHeartbeats 8000000 in
theorem over_at (m : Md) (pw : Nat) (σ : WS) (b : Nat) (r : RecV) (R : List Chunk) (w : World) (hM : Mem (walkC m pw σ :: recC b r :: R) w) (hok : RecOk m r) (hb : σ.bs.length ≤ 800000) :
  Calls Try.prog 28 #[.pointer (some ⟨pw, 0, none⟩), .pointer (some ⟨b, 0, none⟩)] w fun e w' => e = .returned (.tuple #[]) ∧ Mem (walkC m pw (overF m σ r).2 :: recC b (overF m σ r).1 :: R) w' := by
 obtain ⟨vl, vt, hM⟩ := rec_open (hM.front 1 rfl)
 have hM := hM.front 3 rfl
 have h1 : (ov1 m σ r).2.bs.length ≤ σ.bs.length + 1 := fld_len .u8 m σ r.kind 1
 have h2 : (ov2 m σ r).2.bs.length ≤ (ov1 m σ r).2.bs.length + 1 := fld_len .u8 m (ov1 m σ r).2 r.frm 1
 have h3 : (ov3 m σ r).2.bs.length ≤ (ov2 m σ r).2.bs.length + 8 := num_len m (ov2 m σ r).2 r.number 8
 refine enter Try.func28 rfl Try.ntmps28 (Nat.le_of_ble_eq_true rfl) ?_
 intro a0 hz0 hd0 hg0
 have g0_0 : a0.tmps[0]? = some (.pointer (some ⟨pw, 0, none⟩)) := hg0 0 _ rfl
 have g1_0 : a0.tmps[1]? = some (.pointer (some ⟨b, 0, none⟩)) := hg0 1 _ rfl
 clear hg0
 have hM0 : Mem (walkC m pw σ :: boxC b (recCells r vl vt) :: rowC 36 3 vl r.cmd.legs.length (cellsL legE r.cmd.legs) :: rowC 58 2 vt r.cmd.taxes.length (cellsL taxE r.cmd.taxes) :: R) _ := hM
 refine wp_seq ?_
 refine region_seq 46 (fun zz e => (#[.pointer (some ⟨pw, 0, none⟩), .pointer (some ⟨b, 0, none⟩), .pointer (some ⟨b, 0, none⟩), .pointer (some ⟨b, 0, none⟩), .tuple #[]] : Array Value).getD zz undef) (fun k e w => Mem (List.getD [walkC m pw σ :: boxC b (recCells r vl vt) :: rowC 36 3 vl r.cmd.legs.length (cellsL legE r.cmd.legs) :: rowC 58 2 vt r.cmd.taxes.length (cellsL taxE r.cmd.taxes) :: R, walkC m pw (ov1 m σ r).2 :: boxC b #[.int .u8 ((ov1 m σ r).1), .int .u8 r.cmd.kind, .int .u8 r.cmd.tick.c, .int .u64 r.cmd.tick.r, .int .u8 r.cmd.at_, .string r.cmd.name, vl, .int .i64 r.cmd.fare, vt, .int .i64 r.cmd.penalty, .int .i64 r.cmd.amount, .int .u8 r.frm, .int .u64 r.number, .int .u8 r.msg.kind, .int .u8 r.msg.tick.c, .int .u64 r.msg.tick.r, .int .u8 r.msg.at_, .int .u8 r.msg.leg.c, .int .u16 r.msg.leg.f, .int .u32 r.msg.leg.x, .int .i64 r.msg.value, .int .u8 r.msg.status, .int .u32 r.msg.nonce, .int .i64 r.msg.amount, .int .i64 r.msg.code] :: rowC 36 3 vl r.cmd.legs.length (cellsL legE r.cmd.legs) :: rowC 58 2 vt r.cmd.taxes.length (cellsL taxE r.cmd.taxes) :: R] k []) w) (fun _ => (0, undef)) [4] [0, 0, 0, 0, 0] (fun _ _ => false) hz0 (by kernel_rfl) (by kernel_rfl) (by kernel_rfl) ?_ (show Mem _ _ from hM0) ?_ ?_
 · exact ⟨fun _ _ _ => rfl, fun _ _ _ => rfl, fun _ _ _ => rfl, fun _ _ _ => rfl, fun _ _ _ => rfl, trivial⟩
 ·
  refine ⟨?_, ?_, ?_, ?_, ?_, trivial⟩
  · exact op2 (a := 0) rfl fun e w ρ (hM : Mem _ w) E => res_ok (x_move rfl (E.o 0 _ rfl g0_0)) (goes_still rfl rfl hM)
  · exact op2 (a := 0) rfl fun e w ρ (hM : Mem _ w) E => res_ok (x_move rfl (E.o 1 _ rfl g1_0)) (goes_still rfl rfl hM)
  · exact op2 (a := 0) rfl fun e w ρ (hM : Mem _ w) E => res_ok (x_nil rfl (E.d 1 _ 5 rfl rfl rfl)) (goes_still rfl rfl hM)
  · exact op2 (a := 0) rfl fun e w ρ (hM : Mem _ w) E => res_ok (x_fieldAddr (off := 0) rfl (E.d 2 _ 6 rfl rfl rfl) (by kernel_rfl) rfl) (goes_still rfl rfl hM)
  ·
   refine op2 (a := 0) rfl fun e w ρ (hM : Mem _ w) E => ?_
   have e4 : ρ (.tmp 4) = .pointer (some ⟨pw, 0, none⟩) := E.d 0 _ 4 rfl rfl rfl
   have e7 : ρ (.tmp 7) = .pointer (some ⟨b, 0, none⟩) := E.d 3 _ 7 rfl rfl rfl
   refine res_in (x_call (args := #[.pointer (some ⟨pw, 0, none⟩), .pointer (some ⟨b, 0, none⟩), .int .i64 1]) rfl rfl (E.f _) (by simp [e4, e7, E.c]) (by kernel_rfl)) ?_
   refine (seg_uint8 m pw σ none b 0 #[.int .u8 r.kind, .int .u8 r.cmd.kind, .int .u8 r.cmd.tick.c, .int .u64 r.cmd.tick.r, .int .u8 r.cmd.at_, .string r.cmd.name, vl, .int .i64 r.cmd.fare, vt, .int .i64 r.cmd.penalty, .int .i64 r.cmd.amount, .int .u8 r.frm, .int .u64 r.number, .int .u8 r.msg.kind, .int .u8 r.msg.tick.c, .int .u64 r.msg.tick.r, .int .u8 r.msg.at_, .int .u8 r.msg.leg.c, .int .u16 r.msg.leg.f, .int .u32 r.msg.leg.x, .int .i64 r.msg.value, .int .u8 r.msg.status, .int .u32 r.msg.nonce, .int .i64 r.msg.amount, .int .i64 r.msg.code] r.kind 1 _ _ ((hM.front 1 rfl).front 1 rfl) ⟨Nat.le_of_ble_eq_true rfl, rfl⟩ (by decide) (by omega)).mono ?_
   rintro e' w' ⟨rfl, hm⟩
   exact ⟨_, rfl, goes_tick rfl (0, undef) rfl hm⟩
 ·
  intro e a1 w1 hz1 hd hG hO hM
  have hd1 := hd.trans hd0
  have g0_1 := (hO 0 rfl).trans g0_0
  have g1_1 := (hO 1 rfl).trans g1_0
  have hM1 : Mem (walkC m pw (ov1 m σ r).2 :: boxC b #[.int .u8 ((ov1 m σ r).1), .int .u8 r.cmd.kind, .int .u8 r.cmd.tick.c, .int .u64 r.cmd.tick.r, .int .u8 r.cmd.at_, .string r.cmd.name, vl, .int .i64 r.cmd.fare, vt, .int .i64 r.cmd.penalty, .int .i64 r.cmd.amount, .int .u8 r.frm, .int .u64 r.number, .int .u8 r.msg.kind, .int .u8 r.msg.tick.c, .int .u64 r.msg.tick.r, .int .u8 r.msg.at_, .int .u8 r.msg.leg.c, .int .u16 r.msg.leg.f, .int .u32 r.msg.leg.x, .int .i64 r.msg.value, .int .u8 r.msg.status, .int .u32 r.msg.nonce, .int .i64 r.msg.amount, .int .i64 r.msg.code] :: rowC 36 3 vl r.cmd.legs.length (cellsL legE r.cmd.legs) :: rowC 58 2 vt r.cmd.taxes.length (cellsL taxE r.cmd.taxes) :: R) w1 := hM
  clear hM hG hO hd
  clear hz0 hd0 hM0 g0_0 g1_0
  refine then_n ?_
  refine wp_seq ?_
  refine region_seq 46 (fun zz e => (#[.pointer (some ⟨b, 0, none⟩), .pointer (some ⟨b, 0, none⟩), .pointer (some ⟨b, 0, none⟩), .int .u8 ((ov1 m σ r).1)] : Array Value).getD zz undef) (fun k e w => Mem (List.getD [walkC m pw (ov1 m σ r).2 :: boxC b #[.int .u8 ((ov1 m σ r).1), .int .u8 r.cmd.kind, .int .u8 r.cmd.tick.c, .int .u64 r.cmd.tick.r, .int .u8 r.cmd.at_, .string r.cmd.name, vl, .int .i64 r.cmd.fare, vt, .int .i64 r.cmd.penalty, .int .i64 r.cmd.amount, .int .u8 r.frm, .int .u64 r.number, .int .u8 r.msg.kind, .int .u8 r.msg.tick.c, .int .u64 r.msg.tick.r, .int .u8 r.msg.at_, .int .u8 r.msg.leg.c, .int .u16 r.msg.leg.f, .int .u32 r.msg.leg.x, .int .i64 r.msg.value, .int .u8 r.msg.status, .int .u32 r.msg.nonce, .int .i64 r.msg.amount, .int .i64 r.msg.code] :: rowC 36 3 vl r.cmd.legs.length (cellsL legE r.cmd.legs) :: rowC 58 2 vt r.cmd.taxes.length (cellsL taxE r.cmd.taxes) :: R] k []) w) (fun _ => (0, undef)) [] [0, 0, 0, 0] (fun _ _ => false) hz1 (by kernel_rfl) (by kernel_rfl) (by kernel_rfl) ?_ (show Mem _ _ from hM1) ?_ ?_
  · exact ⟨fun _ _ _ => rfl, fun _ _ _ => rfl, fun _ _ _ => rfl, fun _ _ _ => rfl, trivial⟩
  ·
   refine ⟨?_, ?_, ?_, ?_, trivial⟩
   · exact op2 (a := 0) rfl fun e w ρ (hM : Mem _ w) E => res_ok (x_move rfl (E.o 1 _ rfl g1_1)) (goes_still rfl rfl hM)
   · exact op2 (a := 0) rfl fun e w ρ (hM : Mem _ w) E => res_ok (x_nil rfl (E.d 0 _ 9 rfl rfl rfl)) (goes_still rfl rfl hM)
   · exact op2 (a := 0) rfl fun e w ρ (hM : Mem _ w) E => res_ok (x_fieldAddr (off := 0) rfl (E.d 1 _ 10 rfl rfl rfl) (by kernel_rfl) rfl) (goes_still rfl rfl hM)
   · exact op2 (a := 0) rfl fun e w ρ (hM : Mem _ w) E => res_ok (x_load rfl (E.d 2 _ 11 rfl rfl rfl) (by kernel_rfl) ((hM.box 1 rfl).cell 0 rfl)) (goes_still rfl rfl hM)
  ·
   intro e a2 w2 hz2 hd hG hO hM
   have hd2 := hd.trans hd1
   have g0_2 := (hO 0 rfl).trans g0_1
   have g1_2 := (hO 1 rfl).trans g1_1
   have g12_2 : a2.tmps[12]? = some (.int .u8 ((ov1 m σ r).1)) := hG 3 _ 12 rfl rfl
   have hM2 : Mem (walkC m pw (ov1 m σ r).2 :: boxC b #[.int .u8 ((ov1 m σ r).1), .int .u8 r.cmd.kind, .int .u8 r.cmd.tick.c, .int .u64 r.cmd.tick.r, .int .u8 r.cmd.at_, .string r.cmd.name, vl, .int .i64 r.cmd.fare, vt, .int .i64 r.cmd.penalty, .int .i64 r.cmd.amount, .int .u8 r.frm, .int .u64 r.number, .int .u8 r.msg.kind, .int .u8 r.msg.tick.c, .int .u64 r.msg.tick.r, .int .u8 r.msg.at_, .int .u8 r.msg.leg.c, .int .u16 r.msg.leg.f, .int .u32 r.msg.leg.x, .int .i64 r.msg.value, .int .u8 r.msg.status, .int .u32 r.msg.nonce, .int .i64 r.msg.amount, .int .i64 r.msg.code] :: rowC 36 3 vl r.cmd.legs.length (cellsL legE r.cmd.legs) :: rowC 58 2 vt r.cmd.taxes.length (cellsL taxE r.cmd.taxes) :: R) w2 := hM
   clear hM hG hO hd
   clear hz1 hd1 hM1 g0_1 g1_1
   refine then_n ?_
   refine wp_block ?_
   refine wp_seq ?_
   refine region_seq 46 (fun zz e => (#[.bool (decide (((ov1 m σ r).1) = 1)), .bool (decide (((ov1 m σ r).1) = 1))] : Array Value).getD zz undef) (fun k e w => Mem (List.getD [walkC m pw (ov1 m σ r).2 :: boxC b #[.int .u8 ((ov1 m σ r).1), .int .u8 r.cmd.kind, .int .u8 r.cmd.tick.c, .int .u64 r.cmd.tick.r, .int .u8 r.cmd.at_, .string r.cmd.name, vl, .int .i64 r.cmd.fare, vt, .int .i64 r.cmd.penalty, .int .i64 r.cmd.amount, .int .u8 r.frm, .int .u64 r.number, .int .u8 r.msg.kind, .int .u8 r.msg.tick.c, .int .u64 r.msg.tick.r, .int .u8 r.msg.at_, .int .u8 r.msg.leg.c, .int .u16 r.msg.leg.f, .int .u32 r.msg.leg.x, .int .i64 r.msg.value, .int .u8 r.msg.status, .int .u32 r.msg.nonce, .int .i64 r.msg.amount, .int .i64 r.msg.code] :: rowC 36 3 vl r.cmd.legs.length (cellsL legE r.cmd.legs) :: rowC 58 2 vt r.cmd.taxes.length (cellsL taxE r.cmd.taxes) :: R] k []) w) (fun _ => (0, undef)) [] [0, 0] (fun _ _ => false) hz2 (by kernel_rfl) (by kernel_rfl) (by kernel_rfl) ?_ (show Mem _ _ from hM2) ?_ ?_
   · exact ⟨fun _ _ _ => rfl, fun _ _ _ => rfl, trivial⟩
   ·
    refine ⟨?_, ?_, trivial⟩
    · exact op2 (a := 0) rfl fun e w ρ (hM : Mem _ w) E => res_ok (x_eql rfl (E.o 12 _ rfl g12_2) (E.c _) rfl) (goes_still rfl rfl hM)
    · exact op2 (a := 0) rfl fun e w ρ (hM : Mem _ w) E => res_ok (x_assign rfl (E.d 0 _ 17 rfl rfl rfl)) (goes_still rfl rfl hM)
   ·
    intro e a3 w3 hz3 hd hG hO hM
    have hd3 := hd.trans hd2
    have g0_3 := (hO 0 rfl).trans g0_2
    have g1_3 := (hO 1 rfl).trans g1_2
    have g12_3 := (hO 12 rfl).trans g12_2
    have g16_3 : a3.tmps[16]? = some (.bool (decide (((ov1 m σ r).1) = 1))) := hG 1 _ 16 rfl rfl
    have hM3 : Mem (walkC m pw (ov1 m σ r).2 :: boxC b #[.int .u8 ((ov1 m σ r).1), .int .u8 r.cmd.kind, .int .u8 r.cmd.tick.c, .int .u64 r.cmd.tick.r, .int .u8 r.cmd.at_, .string r.cmd.name, vl, .int .i64 r.cmd.fare, vt, .int .i64 r.cmd.penalty, .int .i64 r.cmd.amount, .int .u8 r.frm, .int .u64 r.number, .int .u8 r.msg.kind, .int .u8 r.msg.tick.c, .int .u64 r.msg.tick.r, .int .u8 r.msg.at_, .int .u8 r.msg.leg.c, .int .u16 r.msg.leg.f, .int .u32 r.msg.leg.x, .int .i64 r.msg.value, .int .u8 r.msg.status, .int .u32 r.msg.nonce, .int .i64 r.msg.amount, .int .i64 r.msg.code] :: rowC 36 3 vl r.cmd.legs.length (cellsL legE r.cmd.legs) :: rowC 58 2 vt r.cmd.taxes.length (cellsL taxE r.cmd.taxes) :: R) w3 := hM
    clear hM hG hO hd
    clear hz2 hd2 hM2 g0_2 g1_2 g12_2
    refine then_n ?_
    by_cases hc1 : ((ov1 m σ r).1) = 1
    ·
     refine cond_t (g16_3.trans (by rw [decide_eq_true hc1])) ?_
     refine region_seq 46 (fun zz e => (#[.pointer (some ⟨pw, 0, none⟩), .pointer (some ⟨b, 0, none⟩), .pointer (some ⟨b, 0, none⟩), .pointer (some ⟨b, 1, none⟩), .tuple #[]] : Array Value).getD zz undef) (fun k e w => Mem (List.getD [walkC m pw (ov1 m σ r).2 :: boxC b #[.int .u8 ((ov1 m σ r).1), .int .u8 r.cmd.kind, .int .u8 r.cmd.tick.c, .int .u64 r.cmd.tick.r, .int .u8 r.cmd.at_, .string r.cmd.name, vl, .int .i64 r.cmd.fare, vt, .int .i64 r.cmd.penalty, .int .i64 r.cmd.amount, .int .u8 r.frm, .int .u64 r.number, .int .u8 r.msg.kind, .int .u8 r.msg.tick.c, .int .u64 r.msg.tick.r, .int .u8 r.msg.at_, .int .u8 r.msg.leg.c, .int .u16 r.msg.leg.f, .int .u32 r.msg.leg.x, .int .i64 r.msg.value, .int .u8 r.msg.status, .int .u32 r.msg.nonce, .int .i64 r.msg.amount, .int .i64 r.msg.code] :: rowC 36 3 vl r.cmd.legs.length (cellsL legE r.cmd.legs) :: rowC 58 2 vt r.cmd.taxes.length (cellsL taxE r.cmd.taxes) :: R, walkC m pw (cmdF m (ov1 m σ r).2 r.cmd).2 :: recC b { r with kind := (ov1 m σ r).1, cmd := (cmdF m (ov1 m σ r).2 r.cmd).1 } :: R] k []) w) (fun _ => (0, undef)) [4] [0, 0, 0, 0, 0] (fun _ _ => false) hz3 (by kernel_rfl) (by kernel_rfl) (by kernel_rfl) ?_ (show Mem _ _ from hM3) ?_ ?_
     · exact ⟨fun _ _ _ => rfl, fun _ _ _ => rfl, fun _ _ _ => rfl, fun _ _ _ => rfl, fun _ _ _ => rfl, trivial⟩
     ·
      refine ⟨?_, ?_, ?_, ?_, ?_, trivial⟩
      · exact op2 (a := 0) rfl fun e w ρ (hM : Mem _ w) E => res_ok (x_move rfl (E.o 0 _ rfl g0_3)) (goes_still rfl rfl hM)
      · exact op2 (a := 0) rfl fun e w ρ (hM : Mem _ w) E => res_ok (x_move rfl (E.o 1 _ rfl g1_3)) (goes_still rfl rfl hM)
      · exact op2 (a := 0) rfl fun e w ρ (hM : Mem _ w) E => res_ok (x_nil rfl (E.d 1 _ 19 rfl rfl rfl)) (goes_still rfl rfl hM)
      · exact op2 (a := 0) rfl fun e w ρ (hM : Mem _ w) E => res_ok (x_fieldAddr (off := 1) rfl (E.d 2 _ 20 rfl rfl rfl) (by kernel_rfl) rfl) (goes_still rfl rfl hM)
      ·
       refine op2 (a := 0) rfl fun e w ρ (hM : Mem _ w) E => ?_
       have e18 : ρ (.tmp 18) = .pointer (some ⟨pw, 0, none⟩) := E.d 0 _ 18 rfl rfl rfl
       have e21 : ρ (.tmp 21) = .pointer (some ⟨b, 1, none⟩) := E.d 3 _ 21 rfl rfl rfl
       refine res_in (x_call (args := #[.pointer (some ⟨pw, 0, none⟩), .pointer (some ⟨b, 1, none⟩)]) rfl rfl (E.f _) (by simp [e18, e21]) (by kernel_rfl)) ?_
       refine (command_at m pw (ov1 m σ r).2 b { r with kind := (ov1 m σ r).1 } vl vt _ _ ((((hM.front 3 rfl).front 3 rfl).front 3 rfl).front 3 rfl) hok.c (by omega)).mono ?_
       rintro e' w' ⟨vl', vt', rfl, hm⟩
       have hm := (rec_shut (r := { r with kind := (ov1 m σ r).1, cmd := (cmdF m (ov1 m σ r).2 r.cmd).1 }) (((hm.front 3 rfl).front 3 rfl).front 3 rfl)).front 1 rfl
       exact ⟨_, rfl, goes_tick rfl (0, undef) rfl hm⟩
     ·
      intro e a4 w4 hz4 hd hG hO hM
      have hd4 := hd.trans hd3
      have hM4 : Mem (walkC m pw (cmdF m (ov1 m σ r).2 r.cmd).2 :: recC b { r with kind := (ov1 m σ r).1, cmd := (cmdF m (ov1 m σ r).2 r.cmd).1 } :: R) w4 := hM
      clear hM hG hO hd
      clear hz3 hd3 hM3 g0_3 g1_3 g12_3 g16_3
      refine blk_n ?_
      refine end_r ?_
      refine ret_0 Try.results28 hd4 ?_
      refine ⟨rfl, ?_⟩
      rw [show overF m σ r = _ from if_pos hc1]
      exact ((hM4.front 1 rfl).front 1 rfl)
    ·
     refine cond_f (g16_3.trans (by rw [decide_eq_false hc1])) ?_
     refine wp_seq ?_
     refine wp_seq ?_
     refine region_seq 46 (fun zz e => (#[.bool (decide (((ov1 m σ r).1) = 2)), .bool (decide (((ov1 m σ r).1) = 2))] : Array Value).getD zz undef) (fun k e w => Mem (List.getD [walkC m pw (ov1 m σ r).2 :: boxC b #[.int .u8 ((ov1 m σ r).1), .int .u8 r.cmd.kind, .int .u8 r.cmd.tick.c, .int .u64 r.cmd.tick.r, .int .u8 r.cmd.at_, .string r.cmd.name, vl, .int .i64 r.cmd.fare, vt, .int .i64 r.cmd.penalty, .int .i64 r.cmd.amount, .int .u8 r.frm, .int .u64 r.number, .int .u8 r.msg.kind, .int .u8 r.msg.tick.c, .int .u64 r.msg.tick.r, .int .u8 r.msg.at_, .int .u8 r.msg.leg.c, .int .u16 r.msg.leg.f, .int .u32 r.msg.leg.x, .int .i64 r.msg.value, .int .u8 r.msg.status, .int .u32 r.msg.nonce, .int .i64 r.msg.amount, .int .i64 r.msg.code] :: rowC 36 3 vl r.cmd.legs.length (cellsL legE r.cmd.legs) :: rowC 58 2 vt r.cmd.taxes.length (cellsL taxE r.cmd.taxes) :: R] k []) w) (fun _ => (0, undef)) [] [0, 0] (fun _ _ => false) hz3 (by kernel_rfl) (by kernel_rfl) (by kernel_rfl) ?_ (show Mem _ _ from hM3) ?_ ?_
     · exact ⟨fun _ _ _ => rfl, fun _ _ _ => rfl, trivial⟩
     ·
      refine ⟨?_, ?_, trivial⟩
      · exact op2 (a := 0) rfl fun e w ρ (hM : Mem _ w) E => res_ok (x_eql rfl (E.o 12 _ rfl g12_3) (E.c _) rfl) (goes_still rfl rfl hM)
      · exact op2 (a := 0) rfl fun e w ρ (hM : Mem _ w) E => res_ok (x_assign rfl (E.d 0 _ 24 rfl rfl rfl)) (goes_still rfl rfl hM)
     ·
      intro e a5 w5 hz5 hd hG hO hM
      have hd5 := hd.trans hd3
      have g0_5 := (hO 0 rfl).trans g0_3
      have g1_5 := (hO 1 rfl).trans g1_3
      have g12_5 := (hO 12 rfl).trans g12_3
      have g23_5 : a5.tmps[23]? = some (.bool (decide (((ov1 m σ r).1) = 2))) := hG 1 _ 23 rfl rfl
      have hM5 : Mem (walkC m pw (ov1 m σ r).2 :: boxC b #[.int .u8 ((ov1 m σ r).1), .int .u8 r.cmd.kind, .int .u8 r.cmd.tick.c, .int .u64 r.cmd.tick.r, .int .u8 r.cmd.at_, .string r.cmd.name, vl, .int .i64 r.cmd.fare, vt, .int .i64 r.cmd.penalty, .int .i64 r.cmd.amount, .int .u8 r.frm, .int .u64 r.number, .int .u8 r.msg.kind, .int .u8 r.msg.tick.c, .int .u64 r.msg.tick.r, .int .u8 r.msg.at_, .int .u8 r.msg.leg.c, .int .u16 r.msg.leg.f, .int .u32 r.msg.leg.x, .int .i64 r.msg.value, .int .u8 r.msg.status, .int .u32 r.msg.nonce, .int .i64 r.msg.amount, .int .i64 r.msg.code] :: rowC 36 3 vl r.cmd.legs.length (cellsL legE r.cmd.legs) :: rowC 58 2 vt r.cmd.taxes.length (cellsL taxE r.cmd.taxes) :: R) w5 := hM
      clear hM hG hO hd
      clear hz3 hd3 hM3 g0_3 g1_3 g12_3 g16_3
      refine then_n ?_
      by_cases hc2 : ((ov1 m σ r).1) = 2
      ·
       refine cond_t (g23_5.trans (by rw [decide_eq_true hc2])) ?_
       refine wp_skip ?_
       refine then_n ?_
       refine cond_t (g23_5.trans (by rw [decide_eq_true hc2])) ?_
       refine wp_seq ?_
       refine region_seq 46 (fun zz e => (#[.pointer (some ⟨pw, 0, none⟩), .pointer (some ⟨b, 0, none⟩), .pointer (some ⟨b, 0, none⟩), .pointer (some ⟨b, 11, none⟩), .tuple #[]] : Array Value).getD zz undef) (fun k e w => Mem (List.getD [walkC m pw (ov1 m σ r).2 :: boxC b #[.int .u8 ((ov1 m σ r).1), .int .u8 r.cmd.kind, .int .u8 r.cmd.tick.c, .int .u64 r.cmd.tick.r, .int .u8 r.cmd.at_, .string r.cmd.name, vl, .int .i64 r.cmd.fare, vt, .int .i64 r.cmd.penalty, .int .i64 r.cmd.amount, .int .u8 r.frm, .int .u64 r.number, .int .u8 r.msg.kind, .int .u8 r.msg.tick.c, .int .u64 r.msg.tick.r, .int .u8 r.msg.at_, .int .u8 r.msg.leg.c, .int .u16 r.msg.leg.f, .int .u32 r.msg.leg.x, .int .i64 r.msg.value, .int .u8 r.msg.status, .int .u32 r.msg.nonce, .int .i64 r.msg.amount, .int .i64 r.msg.code] :: rowC 36 3 vl r.cmd.legs.length (cellsL legE r.cmd.legs) :: rowC 58 2 vt r.cmd.taxes.length (cellsL taxE r.cmd.taxes) :: R, walkC m pw (ov2 m σ r).2 :: boxC b #[.int .u8 ((ov1 m σ r).1), .int .u8 r.cmd.kind, .int .u8 r.cmd.tick.c, .int .u64 r.cmd.tick.r, .int .u8 r.cmd.at_, .string r.cmd.name, vl, .int .i64 r.cmd.fare, vt, .int .i64 r.cmd.penalty, .int .i64 r.cmd.amount, .int .u8 ((ov2 m σ r).1), .int .u64 r.number, .int .u8 r.msg.kind, .int .u8 r.msg.tick.c, .int .u64 r.msg.tick.r, .int .u8 r.msg.at_, .int .u8 r.msg.leg.c, .int .u16 r.msg.leg.f, .int .u32 r.msg.leg.x, .int .i64 r.msg.value, .int .u8 r.msg.status, .int .u32 r.msg.nonce, .int .i64 r.msg.amount, .int .i64 r.msg.code] :: rowC 36 3 vl r.cmd.legs.length (cellsL legE r.cmd.legs) :: rowC 58 2 vt r.cmd.taxes.length (cellsL taxE r.cmd.taxes) :: R] k []) w) (fun _ => (0, undef)) [4] [0, 0, 0, 0, 0] (fun _ _ => false) hz5 (by kernel_rfl) (by kernel_rfl) (by kernel_rfl) ?_ (show Mem _ _ from hM5) ?_ ?_
       · exact ⟨fun _ _ _ => rfl, fun _ _ _ => rfl, fun _ _ _ => rfl, fun _ _ _ => rfl, fun _ _ _ => rfl, trivial⟩
       ·
        refine ⟨?_, ?_, ?_, ?_, ?_, trivial⟩
        · exact op2 (a := 0) rfl fun e w ρ (hM : Mem _ w) E => res_ok (x_move rfl (E.o 0 _ rfl g0_5)) (goes_still rfl rfl hM)
        · exact op2 (a := 0) rfl fun e w ρ (hM : Mem _ w) E => res_ok (x_move rfl (E.o 1 _ rfl g1_5)) (goes_still rfl rfl hM)
        · exact op2 (a := 0) rfl fun e w ρ (hM : Mem _ w) E => res_ok (x_nil rfl (E.d 1 _ 27 rfl rfl rfl)) (goes_still rfl rfl hM)
        · exact op2 (a := 0) rfl fun e w ρ (hM : Mem _ w) E => res_ok (x_fieldAddr (off := 11) rfl (E.d 2 _ 28 rfl rfl rfl) (by kernel_rfl) rfl) (goes_still rfl rfl hM)
        ·
         refine op2 (a := 0) rfl fun e w ρ (hM : Mem _ w) E => ?_
         have e26 : ρ (.tmp 26) = .pointer (some ⟨pw, 0, none⟩) := E.d 0 _ 26 rfl rfl rfl
         have e29 : ρ (.tmp 29) = .pointer (some ⟨b, 11, none⟩) := E.d 3 _ 29 rfl rfl rfl
         refine res_in (x_call (args := #[.pointer (some ⟨pw, 0, none⟩), .pointer (some ⟨b, 11, none⟩), .int .i64 1]) rfl rfl (E.f _) (by simp [e26, e29, E.c]) (by kernel_rfl)) ?_
         refine (seg_uint8 m pw (ov1 m σ r).2 none b 11 #[.int .u8 ((ov1 m σ r).1), .int .u8 r.cmd.kind, .int .u8 r.cmd.tick.c, .int .u64 r.cmd.tick.r, .int .u8 r.cmd.at_, .string r.cmd.name, vl, .int .i64 r.cmd.fare, vt, .int .i64 r.cmd.penalty, .int .i64 r.cmd.amount, .int .u8 r.frm, .int .u64 r.number, .int .u8 r.msg.kind, .int .u8 r.msg.tick.c, .int .u64 r.msg.tick.r, .int .u8 r.msg.at_, .int .u8 r.msg.leg.c, .int .u16 r.msg.leg.f, .int .u32 r.msg.leg.x, .int .i64 r.msg.value, .int .u8 r.msg.status, .int .u32 r.msg.nonce, .int .i64 r.msg.amount, .int .i64 r.msg.code] r.frm 1 _ _ ((hM.front 1 rfl).front 1 rfl) ⟨Nat.le_of_ble_eq_true rfl, rfl⟩ (by decide) (by omega)).mono ?_
         rintro e' w' ⟨rfl, hm⟩
         exact ⟨_, rfl, goes_tick rfl (0, undef) rfl hm⟩
       ·
        intro e a6 w6 hz6 hd hG hO hM
        have hd6 := hd.trans hd5
        have g0_6 := (hO 0 rfl).trans g0_5
        have g1_6 := (hO 1 rfl).trans g1_5
        have hM6 : Mem (walkC m pw (ov2 m σ r).2 :: boxC b #[.int .u8 ((ov1 m σ r).1), .int .u8 r.cmd.kind, .int .u8 r.cmd.tick.c, .int .u64 r.cmd.tick.r, .int .u8 r.cmd.at_, .string r.cmd.name, vl, .int .i64 r.cmd.fare, vt, .int .i64 r.cmd.penalty, .int .i64 r.cmd.amount, .int .u8 ((ov2 m σ r).1), .int .u64 r.number, .int .u8 r.msg.kind, .int .u8 r.msg.tick.c, .int .u64 r.msg.tick.r, .int .u8 r.msg.at_, .int .u8 r.msg.leg.c, .int .u16 r.msg.leg.f, .int .u32 r.msg.leg.x, .int .i64 r.msg.value, .int .u8 r.msg.status, .int .u32 r.msg.nonce, .int .i64 r.msg.amount, .int .i64 r.msg.code] :: rowC 36 3 vl r.cmd.legs.length (cellsL legE r.cmd.legs) :: rowC 58 2 vt r.cmd.taxes.length (cellsL taxE r.cmd.taxes) :: R) w6 := hM
        clear hM hG hO hd
        clear hz5 hd5 hM5 g0_5 g1_5 g12_5 g23_5
        refine then_n ?_
        refine wp_seq ?_
        refine region_seq 46 (fun zz e => (#[.pointer (some ⟨pw, 0, none⟩), .pointer (some ⟨b, 0, none⟩), .pointer (some ⟨b, 0, none⟩), .pointer (some ⟨b, 12, none⟩), .tuple #[]] : Array Value).getD zz undef) (fun k e w => Mem (List.getD [walkC m pw (ov2 m σ r).2 :: boxC b #[.int .u8 ((ov1 m σ r).1), .int .u8 r.cmd.kind, .int .u8 r.cmd.tick.c, .int .u64 r.cmd.tick.r, .int .u8 r.cmd.at_, .string r.cmd.name, vl, .int .i64 r.cmd.fare, vt, .int .i64 r.cmd.penalty, .int .i64 r.cmd.amount, .int .u8 ((ov2 m σ r).1), .int .u64 r.number, .int .u8 r.msg.kind, .int .u8 r.msg.tick.c, .int .u64 r.msg.tick.r, .int .u8 r.msg.at_, .int .u8 r.msg.leg.c, .int .u16 r.msg.leg.f, .int .u32 r.msg.leg.x, .int .i64 r.msg.value, .int .u8 r.msg.status, .int .u32 r.msg.nonce, .int .i64 r.msg.amount, .int .i64 r.msg.code] :: rowC 36 3 vl r.cmd.legs.length (cellsL legE r.cmd.legs) :: rowC 58 2 vt r.cmd.taxes.length (cellsL taxE r.cmd.taxes) :: R, walkC m pw (ov3 m σ r).2 :: boxC b #[.int .u8 ((ov1 m σ r).1), .int .u8 r.cmd.kind, .int .u8 r.cmd.tick.c, .int .u64 r.cmd.tick.r, .int .u8 r.cmd.at_, .string r.cmd.name, vl, .int .i64 r.cmd.fare, vt, .int .i64 r.cmd.penalty, .int .i64 r.cmd.amount, .int .u8 ((ov2 m σ r).1), .int .u64 ((ov3 m σ r).1), .int .u8 r.msg.kind, .int .u8 r.msg.tick.c, .int .u64 r.msg.tick.r, .int .u8 r.msg.at_, .int .u8 r.msg.leg.c, .int .u16 r.msg.leg.f, .int .u32 r.msg.leg.x, .int .i64 r.msg.value, .int .u8 r.msg.status, .int .u32 r.msg.nonce, .int .i64 r.msg.amount, .int .i64 r.msg.code] :: rowC 36 3 vl r.cmd.legs.length (cellsL legE r.cmd.legs) :: rowC 58 2 vt r.cmd.taxes.length (cellsL taxE r.cmd.taxes) :: R] k []) w) (fun _ => (0, undef)) [4] [0, 0, 0, 0, 0] (fun _ _ => false) hz6 (by kernel_rfl) (by kernel_rfl) (by kernel_rfl) ?_ (show Mem _ _ from hM6) ?_ ?_
        · exact ⟨fun _ _ _ => rfl, fun _ _ _ => rfl, fun _ _ _ => rfl, fun _ _ _ => rfl, fun _ _ _ => rfl, trivial⟩
        ·
         refine ⟨?_, ?_, ?_, ?_, ?_, trivial⟩
         · exact op2 (a := 0) rfl fun e w ρ (hM : Mem _ w) E => res_ok (x_move rfl (E.o 0 _ rfl g0_6)) (goes_still rfl rfl hM)
         · exact op2 (a := 0) rfl fun e w ρ (hM : Mem _ w) E => res_ok (x_move rfl (E.o 1 _ rfl g1_6)) (goes_still rfl rfl hM)
         · exact op2 (a := 0) rfl fun e w ρ (hM : Mem _ w) E => res_ok (x_nil rfl (E.d 1 _ 32 rfl rfl rfl)) (goes_still rfl rfl hM)
         · exact op2 (a := 0) rfl fun e w ρ (hM : Mem _ w) E => res_ok (x_fieldAddr (off := 12) rfl (E.d 2 _ 33 rfl rfl rfl) (by kernel_rfl) rfl) (goes_still rfl rfl hM)
         ·
          refine op2 (a := 0) rfl fun e w ρ (hM : Mem _ w) E => ?_
          have e31 : ρ (.tmp 31) = .pointer (some ⟨pw, 0, none⟩) := E.d 0 _ 31 rfl rfl rfl
          have e34 : ρ (.tmp 34) = .pointer (some ⟨b, 12, none⟩) := E.d 3 _ 34 rfl rfl rfl
          refine res_in (x_call (args := #[.pointer (some ⟨pw, 0, none⟩), .pointer (some ⟨b, 12, none⟩), .int .i64 8]) rfl rfl (E.f _) (by simp [e31, e34, E.c]) (by kernel_rfl)) ?_
          refine (seg_uint64 m pw (ov2 m σ r).2 none b 12 #[.int .u8 ((ov1 m σ r).1), .int .u8 r.cmd.kind, .int .u8 r.cmd.tick.c, .int .u64 r.cmd.tick.r, .int .u8 r.cmd.at_, .string r.cmd.name, vl, .int .i64 r.cmd.fare, vt, .int .i64 r.cmd.penalty, .int .i64 r.cmd.amount, .int .u8 ((ov2 m σ r).1), .int .u64 r.number, .int .u8 r.msg.kind, .int .u8 r.msg.tick.c, .int .u64 r.msg.tick.r, .int .u8 r.msg.at_, .int .u8 r.msg.leg.c, .int .u16 r.msg.leg.f, .int .u32 r.msg.leg.x, .int .i64 r.msg.value, .int .u8 r.msg.status, .int .u32 r.msg.nonce, .int .i64 r.msg.amount, .int .i64 r.msg.code] r.number 8 _ _ ((hM.front 1 rfl).front 1 rfl) ⟨Nat.le_of_ble_eq_true rfl, rfl⟩ (by decide) (by omega) hok.n).mono ?_
          rintro e' w' ⟨rfl, hm⟩
          exact ⟨_, rfl, goes_tick rfl (0, undef) rfl hm⟩
        ·
         intro e a7 w7 hz7 hd hG hO hM
         have hd7 := hd.trans hd6
         have g0_7 := (hO 0 rfl).trans g0_6
         have g1_7 := (hO 1 rfl).trans g1_6
         have hM7 : Mem (walkC m pw (ov3 m σ r).2 :: boxC b #[.int .u8 ((ov1 m σ r).1), .int .u8 r.cmd.kind, .int .u8 r.cmd.tick.c, .int .u64 r.cmd.tick.r, .int .u8 r.cmd.at_, .string r.cmd.name, vl, .int .i64 r.cmd.fare, vt, .int .i64 r.cmd.penalty, .int .i64 r.cmd.amount, .int .u8 ((ov2 m σ r).1), .int .u64 ((ov3 m σ r).1), .int .u8 r.msg.kind, .int .u8 r.msg.tick.c, .int .u64 r.msg.tick.r, .int .u8 r.msg.at_, .int .u8 r.msg.leg.c, .int .u16 r.msg.leg.f, .int .u32 r.msg.leg.x, .int .i64 r.msg.value, .int .u8 r.msg.status, .int .u32 r.msg.nonce, .int .i64 r.msg.amount, .int .i64 r.msg.code] :: rowC 36 3 vl r.cmd.legs.length (cellsL legE r.cmd.legs) :: rowC 58 2 vt r.cmd.taxes.length (cellsL taxE r.cmd.taxes) :: R) w7 := hM
         clear hM hG hO hd
         clear hz6 hd6 hM6 g0_6 g1_6
         refine then_n ?_
         refine wp_seq ?_
         refine region_seq 46 (fun zz e => (#[.pointer (some ⟨b, 0, none⟩), .pointer (some ⟨b, 0, none⟩), .pointer (some ⟨b, 0, none⟩), .int .u8 ((ov1 m σ r).1), .bool true] : Array Value).getD zz undef) (fun k e w => Mem (List.getD [walkC m pw (ov3 m σ r).2 :: boxC b #[.int .u8 ((ov1 m σ r).1), .int .u8 r.cmd.kind, .int .u8 r.cmd.tick.c, .int .u64 r.cmd.tick.r, .int .u8 r.cmd.at_, .string r.cmd.name, vl, .int .i64 r.cmd.fare, vt, .int .i64 r.cmd.penalty, .int .i64 r.cmd.amount, .int .u8 ((ov2 m σ r).1), .int .u64 ((ov3 m σ r).1), .int .u8 r.msg.kind, .int .u8 r.msg.tick.c, .int .u64 r.msg.tick.r, .int .u8 r.msg.at_, .int .u8 r.msg.leg.c, .int .u16 r.msg.leg.f, .int .u32 r.msg.leg.x, .int .i64 r.msg.value, .int .u8 r.msg.status, .int .u32 r.msg.nonce, .int .i64 r.msg.amount, .int .i64 r.msg.code] :: rowC 36 3 vl r.cmd.legs.length (cellsL legE r.cmd.legs) :: rowC 58 2 vt r.cmd.taxes.length (cellsL taxE r.cmd.taxes) :: R] k []) w) (fun _ => (0, undef)) [] [0, 0, 0, 0, 0] (fun _ _ => false) hz7 (by kernel_rfl) (by kernel_rfl) (by kernel_rfl) ?_ (show Mem _ _ from hM7) ?_ ?_
         · exact ⟨fun _ _ _ => rfl, fun _ _ _ => rfl, fun _ _ _ => rfl, fun _ _ _ => rfl, fun _ _ _ => rfl, trivial⟩
         ·
          refine ⟨?_, ?_, ?_, ?_, ?_, trivial⟩
          · exact op2 (a := 0) rfl fun e w ρ (hM : Mem _ w) E => res_ok (x_move rfl (E.o 1 _ rfl g1_7)) (goes_still rfl rfl hM)
          · exact op2 (a := 0) rfl fun e w ρ (hM : Mem _ w) E => res_ok (x_nil rfl (E.d 0 _ 36 rfl rfl rfl)) (goes_still rfl rfl hM)
          · exact op2 (a := 0) rfl fun e w ρ (hM : Mem _ w) E => res_ok (x_fieldAddr (off := 0) rfl (E.d 1 _ 37 rfl rfl rfl) (by kernel_rfl) rfl) (goes_still rfl rfl hM)
          · exact op2 (a := 0) rfl fun e w ρ (hM : Mem _ w) E => res_ok (x_load rfl (E.d 2 _ 38 rfl rfl rfl) (by kernel_rfl) ((hM.box 1 rfl).cell 0 rfl)) (goes_still rfl rfl hM)
          · exact op2 (a := 0) rfl fun e w ρ (hM : Mem _ w) E => res_ok (x_eql rfl (E.d 3 _ 39 rfl rfl rfl) (E.c _) (decide_eq_true hc2)) (goes_still rfl rfl hM)
         ·
          intro e a8 w8 hz8 hd hG hO hM
          have hd8 := hd.trans hd7
          have g0_8 := (hO 0 rfl).trans g0_7
          have g1_8 := (hO 1 rfl).trans g1_7
          have g40_8 : a8.tmps[40]? = some (.bool true) := hG 4 _ 40 rfl rfl
          have hM8 : Mem (walkC m pw (ov3 m σ r).2 :: boxC b #[.int .u8 ((ov1 m σ r).1), .int .u8 r.cmd.kind, .int .u8 r.cmd.tick.c, .int .u64 r.cmd.tick.r, .int .u8 r.cmd.at_, .string r.cmd.name, vl, .int .i64 r.cmd.fare, vt, .int .i64 r.cmd.penalty, .int .i64 r.cmd.amount, .int .u8 ((ov2 m σ r).1), .int .u64 ((ov3 m σ r).1), .int .u8 r.msg.kind, .int .u8 r.msg.tick.c, .int .u64 r.msg.tick.r, .int .u8 r.msg.at_, .int .u8 r.msg.leg.c, .int .u16 r.msg.leg.f, .int .u32 r.msg.leg.x, .int .i64 r.msg.value, .int .u8 r.msg.status, .int .u32 r.msg.nonce, .int .i64 r.msg.amount, .int .i64 r.msg.code] :: rowC 36 3 vl r.cmd.legs.length (cellsL legE r.cmd.legs) :: rowC 58 2 vt r.cmd.taxes.length (cellsL taxE r.cmd.taxes) :: R) w8 := hM
          clear hM hG hO hd
          clear hz7 hd7 hM7 g0_7 g1_7
          refine then_n ?_
          refine cond_t g40_8 ?_
          refine region_seq 46 (fun zz e => (#[.pointer (some ⟨pw, 0, none⟩), .pointer (some ⟨b, 0, none⟩), .pointer (some ⟨b, 0, none⟩), .pointer (some ⟨b, 13, none⟩), .tuple #[]] : Array Value).getD zz undef) (fun k e w => Mem (List.getD [walkC m pw (ov3 m σ r).2 :: boxC b #[.int .u8 ((ov1 m σ r).1), .int .u8 r.cmd.kind, .int .u8 r.cmd.tick.c, .int .u64 r.cmd.tick.r, .int .u8 r.cmd.at_, .string r.cmd.name, vl, .int .i64 r.cmd.fare, vt, .int .i64 r.cmd.penalty, .int .i64 r.cmd.amount, .int .u8 ((ov2 m σ r).1), .int .u64 ((ov3 m σ r).1), .int .u8 r.msg.kind, .int .u8 r.msg.tick.c, .int .u64 r.msg.tick.r, .int .u8 r.msg.at_, .int .u8 r.msg.leg.c, .int .u16 r.msg.leg.f, .int .u32 r.msg.leg.x, .int .i64 r.msg.value, .int .u8 r.msg.status, .int .u32 r.msg.nonce, .int .i64 r.msg.amount, .int .i64 r.msg.code] :: rowC 36 3 vl r.cmd.legs.length (cellsL legE r.cmd.legs) :: rowC 58 2 vt r.cmd.taxes.length (cellsL taxE r.cmd.taxes) :: R, walkC m pw (msgF m (ov3 m σ r).2 r.msg).2 :: boxC b #[.int .u8 ((ov1 m σ r).1), .int .u8 r.cmd.kind, .int .u8 r.cmd.tick.c, .int .u64 r.cmd.tick.r, .int .u8 r.cmd.at_, .string r.cmd.name, vl, .int .i64 r.cmd.fare, vt, .int .i64 r.cmd.penalty, .int .i64 r.cmd.amount, .int .u8 ((ov2 m σ r).1), .int .u64 ((ov3 m σ r).1), .int .u8 ((msgF m (ov3 m σ r).2 r.msg).1.kind), .int .u8 ((msgF m (ov3 m σ r).2 r.msg).1.tick.c), .int .u64 ((msgF m (ov3 m σ r).2 r.msg).1.tick.r), .int .u8 ((msgF m (ov3 m σ r).2 r.msg).1.at_), .int .u8 ((msgF m (ov3 m σ r).2 r.msg).1.leg.c), .int .u16 ((msgF m (ov3 m σ r).2 r.msg).1.leg.f), .int .u32 ((msgF m (ov3 m σ r).2 r.msg).1.leg.x), .int .i64 ((msgF m (ov3 m σ r).2 r.msg).1.value), .int .u8 ((msgF m (ov3 m σ r).2 r.msg).1.status), .int .u32 ((msgF m (ov3 m σ r).2 r.msg).1.nonce), .int .i64 ((msgF m (ov3 m σ r).2 r.msg).1.amount), .int .i64 ((msgF m (ov3 m σ r).2 r.msg).1.code)] :: rowC 36 3 vl r.cmd.legs.length (cellsL legE r.cmd.legs) :: rowC 58 2 vt r.cmd.taxes.length (cellsL taxE r.cmd.taxes) :: R] k []) w) (fun _ => (0, undef)) [4] [0, 0, 0, 0, 0] (fun _ _ => false) hz8 (by kernel_rfl) (by kernel_rfl) (by kernel_rfl) ?_ (show Mem _ _ from hM8) ?_ ?_
          · exact ⟨fun _ _ _ => rfl, fun _ _ _ => rfl, fun _ _ _ => rfl, fun _ _ _ => rfl, fun _ _ _ => rfl, trivial⟩
          ·
           refine ⟨?_, ?_, ?_, ?_, ?_, trivial⟩
           · exact op2 (a := 0) rfl fun e w ρ (hM : Mem _ w) E => res_ok (x_move rfl (E.o 0 _ rfl g0_8)) (goes_still rfl rfl hM)
           · exact op2 (a := 0) rfl fun e w ρ (hM : Mem _ w) E => res_ok (x_move rfl (E.o 1 _ rfl g1_8)) (goes_still rfl rfl hM)
           · exact op2 (a := 0) rfl fun e w ρ (hM : Mem _ w) E => res_ok (x_nil rfl (E.d 1 _ 42 rfl rfl rfl)) (goes_still rfl rfl hM)
           · exact op2 (a := 0) rfl fun e w ρ (hM : Mem _ w) E => res_ok (x_fieldAddr (off := 13) rfl (E.d 2 _ 43 rfl rfl rfl) (by kernel_rfl) rfl) (goes_still rfl rfl hM)
           ·
            refine op2 (a := 0) rfl fun e w ρ (hM : Mem _ w) E => ?_
            have e41 : ρ (.tmp 41) = .pointer (some ⟨pw, 0, none⟩) := E.d 0 _ 41 rfl rfl rfl
            have e44 : ρ (.tmp 44) = .pointer (some ⟨b, 13, none⟩) := E.d 3 _ 44 rfl rfl rfl
            refine res_in (x_call (args := #[.pointer (some ⟨pw, 0, none⟩), .pointer (some ⟨b, 13, none⟩)]) rfl rfl (E.f _) (by simp [e41, e44]) (by kernel_rfl)) ?_
            refine (message_at m pw (ov3 m σ r).2 b { r with kind := (ov1 m σ r).1, frm := (ov2 m σ r).1, number := (ov3 m σ r).1 } vl vt _ _ ((hM.front 1 rfl).front 1 rfl) hok.g (by omega)).mono ?_
            rintro e' w' ⟨rfl, hm⟩
            exact ⟨_, rfl, goes_tick rfl (0, undef) rfl hm⟩
          ·
           intro e a9 w9 hz9 hd hG hO hM
           have hd9 := hd.trans hd8
           have hM9 : Mem (walkC m pw (msgF m (ov3 m σ r).2 r.msg).2 :: boxC b #[.int .u8 ((ov1 m σ r).1), .int .u8 r.cmd.kind, .int .u8 r.cmd.tick.c, .int .u64 r.cmd.tick.r, .int .u8 r.cmd.at_, .string r.cmd.name, vl, .int .i64 r.cmd.fare, vt, .int .i64 r.cmd.penalty, .int .i64 r.cmd.amount, .int .u8 ((ov2 m σ r).1), .int .u64 ((ov3 m σ r).1), .int .u8 ((msgF m (ov3 m σ r).2 r.msg).1.kind), .int .u8 ((msgF m (ov3 m σ r).2 r.msg).1.tick.c), .int .u64 ((msgF m (ov3 m σ r).2 r.msg).1.tick.r), .int .u8 ((msgF m (ov3 m σ r).2 r.msg).1.at_), .int .u8 ((msgF m (ov3 m σ r).2 r.msg).1.leg.c), .int .u16 ((msgF m (ov3 m σ r).2 r.msg).1.leg.f), .int .u32 ((msgF m (ov3 m σ r).2 r.msg).1.leg.x), .int .i64 ((msgF m (ov3 m σ r).2 r.msg).1.value), .int .u8 ((msgF m (ov3 m σ r).2 r.msg).1.status), .int .u32 ((msgF m (ov3 m σ r).2 r.msg).1.nonce), .int .i64 ((msgF m (ov3 m σ r).2 r.msg).1.amount), .int .i64 ((msgF m (ov3 m σ r).2 r.msg).1.code)] :: rowC 36 3 vl r.cmd.legs.length (cellsL legE r.cmd.legs) :: rowC 58 2 vt r.cmd.taxes.length (cellsL taxE r.cmd.taxes) :: R) w9 := hM
           clear hM hG hO hd
           clear hz8 hd8 hM8 g0_8 g1_8 g40_8
           refine blk_n ?_
           refine end_r ?_
           refine ret_0 Try.results28 hd9 ?_
           refine ⟨rfl, ?_⟩
           rw [show overF m σ r = _ from (if_neg hc1).trans (if_pos hc2)]
           exact (rec_shut (r := { r with kind := (ov1 m σ r).1, frm := (ov2 m σ r).1, number := (ov3 m σ r).1, msg := (msgF m (ov3 m σ r).2 r.msg).1 }) ((((hM9.front 0 rfl).front 3 rfl).front 3 rfl).front 3 rfl)).front 1 rfl
      ·
       refine cond_f (g23_5.trans (by rw [decide_eq_false hc2])) ?_
       refine region_seq 46 (fun zz e => (#[.bool (decide (((ov1 m σ r).1) = 3)), .bool (decide (((ov1 m σ r).1) = 3))] : Array Value).getD zz undef) (fun k e w => Mem (List.getD [walkC m pw (ov1 m σ r).2 :: boxC b #[.int .u8 ((ov1 m σ r).1), .int .u8 r.cmd.kind, .int .u8 r.cmd.tick.c, .int .u64 r.cmd.tick.r, .int .u8 r.cmd.at_, .string r.cmd.name, vl, .int .i64 r.cmd.fare, vt, .int .i64 r.cmd.penalty, .int .i64 r.cmd.amount, .int .u8 r.frm, .int .u64 r.number, .int .u8 r.msg.kind, .int .u8 r.msg.tick.c, .int .u64 r.msg.tick.r, .int .u8 r.msg.at_, .int .u8 r.msg.leg.c, .int .u16 r.msg.leg.f, .int .u32 r.msg.leg.x, .int .i64 r.msg.value, .int .u8 r.msg.status, .int .u32 r.msg.nonce, .int .i64 r.msg.amount, .int .i64 r.msg.code] :: rowC 36 3 vl r.cmd.legs.length (cellsL legE r.cmd.legs) :: rowC 58 2 vt r.cmd.taxes.length (cellsL taxE r.cmd.taxes) :: R] k []) w) (fun _ => (0, undef)) [] [0, 0] (fun _ _ => false) hz5 (by kernel_rfl) (by kernel_rfl) (by kernel_rfl) ?_ (show Mem _ _ from hM5) ?_ ?_
       · exact ⟨fun _ _ _ => rfl, fun _ _ _ => rfl, trivial⟩
       ·
        refine ⟨?_, ?_, trivial⟩
        · exact op2 (a := 0) rfl fun e w ρ (hM : Mem _ w) E => res_ok (x_eql rfl (E.o 12 _ rfl g12_5) (E.c _) rfl) (goes_still rfl rfl hM)
        · exact op2 (a := 0) rfl fun e w ρ (hM : Mem _ w) E => res_ok (x_assign rfl (E.d 0 _ 25 rfl rfl rfl)) (goes_still rfl rfl hM)
       ·
        intro e a10 w10 hz10 hd hG hO hM
        have hd10 := hd.trans hd5
        have g0_10 := (hO 0 rfl).trans g0_5
        have g1_10 := (hO 1 rfl).trans g1_5
        have g23_10 : a10.tmps[23]? = some (.bool (decide (((ov1 m σ r).1) = 3))) := hG 1 _ 23 rfl rfl
        have hM10 : Mem (walkC m pw (ov1 m σ r).2 :: boxC b #[.int .u8 ((ov1 m σ r).1), .int .u8 r.cmd.kind, .int .u8 r.cmd.tick.c, .int .u64 r.cmd.tick.r, .int .u8 r.cmd.at_, .string r.cmd.name, vl, .int .i64 r.cmd.fare, vt, .int .i64 r.cmd.penalty, .int .i64 r.cmd.amount, .int .u8 r.frm, .int .u64 r.number, .int .u8 r.msg.kind, .int .u8 r.msg.tick.c, .int .u64 r.msg.tick.r, .int .u8 r.msg.at_, .int .u8 r.msg.leg.c, .int .u16 r.msg.leg.f, .int .u32 r.msg.leg.x, .int .i64 r.msg.value, .int .u8 r.msg.status, .int .u32 r.msg.nonce, .int .i64 r.msg.amount, .int .i64 r.msg.code] :: rowC 36 3 vl r.cmd.legs.length (cellsL legE r.cmd.legs) :: rowC 58 2 vt r.cmd.taxes.length (cellsL taxE r.cmd.taxes) :: R) w10 := hM
        clear hM hG hO hd
        clear hz5 hd5 hM5 g0_5 g1_5 g12_5 g23_5
        refine then_n ?_
        by_cases hc3 : ((ov1 m σ r).1) = 3
        ·
         refine cond_t (g23_10.trans (by rw [decide_eq_true hc3])) ?_
         refine wp_seq ?_
         refine region_seq 46 (fun zz e => (#[.pointer (some ⟨pw, 0, none⟩), .pointer (some ⟨b, 0, none⟩), .pointer (some ⟨b, 0, none⟩), .pointer (some ⟨b, 11, none⟩), .tuple #[]] : Array Value).getD zz undef) (fun k e w => Mem (List.getD [walkC m pw (ov1 m σ r).2 :: boxC b #[.int .u8 ((ov1 m σ r).1), .int .u8 r.cmd.kind, .int .u8 r.cmd.tick.c, .int .u64 r.cmd.tick.r, .int .u8 r.cmd.at_, .string r.cmd.name, vl, .int .i64 r.cmd.fare, vt, .int .i64 r.cmd.penalty, .int .i64 r.cmd.amount, .int .u8 r.frm, .int .u64 r.number, .int .u8 r.msg.kind, .int .u8 r.msg.tick.c, .int .u64 r.msg.tick.r, .int .u8 r.msg.at_, .int .u8 r.msg.leg.c, .int .u16 r.msg.leg.f, .int .u32 r.msg.leg.x, .int .i64 r.msg.value, .int .u8 r.msg.status, .int .u32 r.msg.nonce, .int .i64 r.msg.amount, .int .i64 r.msg.code] :: rowC 36 3 vl r.cmd.legs.length (cellsL legE r.cmd.legs) :: rowC 58 2 vt r.cmd.taxes.length (cellsL taxE r.cmd.taxes) :: R, walkC m pw (ov2 m σ r).2 :: boxC b #[.int .u8 ((ov1 m σ r).1), .int .u8 r.cmd.kind, .int .u8 r.cmd.tick.c, .int .u64 r.cmd.tick.r, .int .u8 r.cmd.at_, .string r.cmd.name, vl, .int .i64 r.cmd.fare, vt, .int .i64 r.cmd.penalty, .int .i64 r.cmd.amount, .int .u8 ((ov2 m σ r).1), .int .u64 r.number, .int .u8 r.msg.kind, .int .u8 r.msg.tick.c, .int .u64 r.msg.tick.r, .int .u8 r.msg.at_, .int .u8 r.msg.leg.c, .int .u16 r.msg.leg.f, .int .u32 r.msg.leg.x, .int .i64 r.msg.value, .int .u8 r.msg.status, .int .u32 r.msg.nonce, .int .i64 r.msg.amount, .int .i64 r.msg.code] :: rowC 36 3 vl r.cmd.legs.length (cellsL legE r.cmd.legs) :: rowC 58 2 vt r.cmd.taxes.length (cellsL taxE r.cmd.taxes) :: R] k []) w) (fun _ => (0, undef)) [4] [0, 0, 0, 0, 0] (fun _ _ => false) hz10 (by kernel_rfl) (by kernel_rfl) (by kernel_rfl) ?_ (show Mem _ _ from hM10) ?_ ?_
         · exact ⟨fun _ _ _ => rfl, fun _ _ _ => rfl, fun _ _ _ => rfl, fun _ _ _ => rfl, fun _ _ _ => rfl, trivial⟩
         ·
          refine ⟨?_, ?_, ?_, ?_, ?_, trivial⟩
          · exact op2 (a := 0) rfl fun e w ρ (hM : Mem _ w) E => res_ok (x_move rfl (E.o 0 _ rfl g0_10)) (goes_still rfl rfl hM)
          · exact op2 (a := 0) rfl fun e w ρ (hM : Mem _ w) E => res_ok (x_move rfl (E.o 1 _ rfl g1_10)) (goes_still rfl rfl hM)
          · exact op2 (a := 0) rfl fun e w ρ (hM : Mem _ w) E => res_ok (x_nil rfl (E.d 1 _ 27 rfl rfl rfl)) (goes_still rfl rfl hM)
          · exact op2 (a := 0) rfl fun e w ρ (hM : Mem _ w) E => res_ok (x_fieldAddr (off := 11) rfl (E.d 2 _ 28 rfl rfl rfl) (by kernel_rfl) rfl) (goes_still rfl rfl hM)
          ·
           refine op2 (a := 0) rfl fun e w ρ (hM : Mem _ w) E => ?_
           have e26 : ρ (.tmp 26) = .pointer (some ⟨pw, 0, none⟩) := E.d 0 _ 26 rfl rfl rfl
           have e29 : ρ (.tmp 29) = .pointer (some ⟨b, 11, none⟩) := E.d 3 _ 29 rfl rfl rfl
           refine res_in (x_call (args := #[.pointer (some ⟨pw, 0, none⟩), .pointer (some ⟨b, 11, none⟩), .int .i64 1]) rfl rfl (E.f _) (by simp [e26, e29, E.c]) (by kernel_rfl)) ?_
           refine (seg_uint8 m pw (ov1 m σ r).2 none b 11 #[.int .u8 ((ov1 m σ r).1), .int .u8 r.cmd.kind, .int .u8 r.cmd.tick.c, .int .u64 r.cmd.tick.r, .int .u8 r.cmd.at_, .string r.cmd.name, vl, .int .i64 r.cmd.fare, vt, .int .i64 r.cmd.penalty, .int .i64 r.cmd.amount, .int .u8 r.frm, .int .u64 r.number, .int .u8 r.msg.kind, .int .u8 r.msg.tick.c, .int .u64 r.msg.tick.r, .int .u8 r.msg.at_, .int .u8 r.msg.leg.c, .int .u16 r.msg.leg.f, .int .u32 r.msg.leg.x, .int .i64 r.msg.value, .int .u8 r.msg.status, .int .u32 r.msg.nonce, .int .i64 r.msg.amount, .int .i64 r.msg.code] r.frm 1 _ _ ((hM.front 1 rfl).front 1 rfl) ⟨Nat.le_of_ble_eq_true rfl, rfl⟩ (by decide) (by omega)).mono ?_
           rintro e' w' ⟨rfl, hm⟩
           exact ⟨_, rfl, goes_tick rfl (0, undef) rfl hm⟩
         ·
          intro e a11 w11 hz11 hd hG hO hM
          have hd11 := hd.trans hd10
          have g0_11 := (hO 0 rfl).trans g0_10
          have g1_11 := (hO 1 rfl).trans g1_10
          have hM11 : Mem (walkC m pw (ov2 m σ r).2 :: boxC b #[.int .u8 ((ov1 m σ r).1), .int .u8 r.cmd.kind, .int .u8 r.cmd.tick.c, .int .u64 r.cmd.tick.r, .int .u8 r.cmd.at_, .string r.cmd.name, vl, .int .i64 r.cmd.fare, vt, .int .i64 r.cmd.penalty, .int .i64 r.cmd.amount, .int .u8 ((ov2 m σ r).1), .int .u64 r.number, .int .u8 r.msg.kind, .int .u8 r.msg.tick.c, .int .u64 r.msg.tick.r, .int .u8 r.msg.at_, .int .u8 r.msg.leg.c, .int .u16 r.msg.leg.f, .int .u32 r.msg.leg.x, .int .i64 r.msg.value, .int .u8 r.msg.status, .int .u32 r.msg.nonce, .int .i64 r.msg.amount, .int .i64 r.msg.code] :: rowC 36 3 vl r.cmd.legs.length (cellsL legE r.cmd.legs) :: rowC 58 2 vt r.cmd.taxes.length (cellsL taxE r.cmd.taxes) :: R) w11 := hM
          clear hM hG hO hd
          clear hz10 hd10 hM10 g0_10 g1_10 g23_10
          refine then_n ?_
          refine wp_seq ?_
          refine region_seq 46 (fun zz e => (#[.pointer (some ⟨pw, 0, none⟩), .pointer (some ⟨b, 0, none⟩), .pointer (some ⟨b, 0, none⟩), .pointer (some ⟨b, 12, none⟩), .tuple #[]] : Array Value).getD zz undef) (fun k e w => Mem (List.getD [walkC m pw (ov2 m σ r).2 :: boxC b #[.int .u8 ((ov1 m σ r).1), .int .u8 r.cmd.kind, .int .u8 r.cmd.tick.c, .int .u64 r.cmd.tick.r, .int .u8 r.cmd.at_, .string r.cmd.name, vl, .int .i64 r.cmd.fare, vt, .int .i64 r.cmd.penalty, .int .i64 r.cmd.amount, .int .u8 ((ov2 m σ r).1), .int .u64 r.number, .int .u8 r.msg.kind, .int .u8 r.msg.tick.c, .int .u64 r.msg.tick.r, .int .u8 r.msg.at_, .int .u8 r.msg.leg.c, .int .u16 r.msg.leg.f, .int .u32 r.msg.leg.x, .int .i64 r.msg.value, .int .u8 r.msg.status, .int .u32 r.msg.nonce, .int .i64 r.msg.amount, .int .i64 r.msg.code] :: rowC 36 3 vl r.cmd.legs.length (cellsL legE r.cmd.legs) :: rowC 58 2 vt r.cmd.taxes.length (cellsL taxE r.cmd.taxes) :: R, walkC m pw (ov3 m σ r).2 :: boxC b #[.int .u8 ((ov1 m σ r).1), .int .u8 r.cmd.kind, .int .u8 r.cmd.tick.c, .int .u64 r.cmd.tick.r, .int .u8 r.cmd.at_, .string r.cmd.name, vl, .int .i64 r.cmd.fare, vt, .int .i64 r.cmd.penalty, .int .i64 r.cmd.amount, .int .u8 ((ov2 m σ r).1), .int .u64 ((ov3 m σ r).1), .int .u8 r.msg.kind, .int .u8 r.msg.tick.c, .int .u64 r.msg.tick.r, .int .u8 r.msg.at_, .int .u8 r.msg.leg.c, .int .u16 r.msg.leg.f, .int .u32 r.msg.leg.x, .int .i64 r.msg.value, .int .u8 r.msg.status, .int .u32 r.msg.nonce, .int .i64 r.msg.amount, .int .i64 r.msg.code] :: rowC 36 3 vl r.cmd.legs.length (cellsL legE r.cmd.legs) :: rowC 58 2 vt r.cmd.taxes.length (cellsL taxE r.cmd.taxes) :: R] k []) w) (fun _ => (0, undef)) [4] [0, 0, 0, 0, 0] (fun _ _ => false) hz11 (by kernel_rfl) (by kernel_rfl) (by kernel_rfl) ?_ (show Mem _ _ from hM11) ?_ ?_
          · exact ⟨fun _ _ _ => rfl, fun _ _ _ => rfl, fun _ _ _ => rfl, fun _ _ _ => rfl, fun _ _ _ => rfl, trivial⟩
          ·
           refine ⟨?_, ?_, ?_, ?_, ?_, trivial⟩
           · exact op2 (a := 0) rfl fun e w ρ (hM : Mem _ w) E => res_ok (x_move rfl (E.o 0 _ rfl g0_11)) (goes_still rfl rfl hM)
           · exact op2 (a := 0) rfl fun e w ρ (hM : Mem _ w) E => res_ok (x_move rfl (E.o 1 _ rfl g1_11)) (goes_still rfl rfl hM)
           · exact op2 (a := 0) rfl fun e w ρ (hM : Mem _ w) E => res_ok (x_nil rfl (E.d 1 _ 32 rfl rfl rfl)) (goes_still rfl rfl hM)
           · exact op2 (a := 0) rfl fun e w ρ (hM : Mem _ w) E => res_ok (x_fieldAddr (off := 12) rfl (E.d 2 _ 33 rfl rfl rfl) (by kernel_rfl) rfl) (goes_still rfl rfl hM)
           ·
            refine op2 (a := 0) rfl fun e w ρ (hM : Mem _ w) E => ?_
            have e31 : ρ (.tmp 31) = .pointer (some ⟨pw, 0, none⟩) := E.d 0 _ 31 rfl rfl rfl
            have e34 : ρ (.tmp 34) = .pointer (some ⟨b, 12, none⟩) := E.d 3 _ 34 rfl rfl rfl
            refine res_in (x_call (args := #[.pointer (some ⟨pw, 0, none⟩), .pointer (some ⟨b, 12, none⟩), .int .i64 8]) rfl rfl (E.f _) (by simp [e31, e34, E.c]) (by kernel_rfl)) ?_
            refine (seg_uint64 m pw (ov2 m σ r).2 none b 12 #[.int .u8 ((ov1 m σ r).1), .int .u8 r.cmd.kind, .int .u8 r.cmd.tick.c, .int .u64 r.cmd.tick.r, .int .u8 r.cmd.at_, .string r.cmd.name, vl, .int .i64 r.cmd.fare, vt, .int .i64 r.cmd.penalty, .int .i64 r.cmd.amount, .int .u8 ((ov2 m σ r).1), .int .u64 r.number, .int .u8 r.msg.kind, .int .u8 r.msg.tick.c, .int .u64 r.msg.tick.r, .int .u8 r.msg.at_, .int .u8 r.msg.leg.c, .int .u16 r.msg.leg.f, .int .u32 r.msg.leg.x, .int .i64 r.msg.value, .int .u8 r.msg.status, .int .u32 r.msg.nonce, .int .i64 r.msg.amount, .int .i64 r.msg.code] r.number 8 _ _ ((hM.front 1 rfl).front 1 rfl) ⟨Nat.le_of_ble_eq_true rfl, rfl⟩ (by decide) (by omega) hok.n).mono ?_
            rintro e' w' ⟨rfl, hm⟩
            exact ⟨_, rfl, goes_tick rfl (0, undef) rfl hm⟩
          ·
           intro e a12 w12 hz12 hd hG hO hM
           have hd12 := hd.trans hd11
           have g0_12 := (hO 0 rfl).trans g0_11
           have g1_12 := (hO 1 rfl).trans g1_11
           have hM12 : Mem (walkC m pw (ov3 m σ r).2 :: boxC b #[.int .u8 ((ov1 m σ r).1), .int .u8 r.cmd.kind, .int .u8 r.cmd.tick.c, .int .u64 r.cmd.tick.r, .int .u8 r.cmd.at_, .string r.cmd.name, vl, .int .i64 r.cmd.fare, vt, .int .i64 r.cmd.penalty, .int .i64 r.cmd.amount, .int .u8 ((ov2 m σ r).1), .int .u64 ((ov3 m σ r).1), .int .u8 r.msg.kind, .int .u8 r.msg.tick.c, .int .u64 r.msg.tick.r, .int .u8 r.msg.at_, .int .u8 r.msg.leg.c, .int .u16 r.msg.leg.f, .int .u32 r.msg.leg.x, .int .i64 r.msg.value, .int .u8 r.msg.status, .int .u32 r.msg.nonce, .int .i64 r.msg.amount, .int .i64 r.msg.code] :: rowC 36 3 vl r.cmd.legs.length (cellsL legE r.cmd.legs) :: rowC 58 2 vt r.cmd.taxes.length (cellsL taxE r.cmd.taxes) :: R) w12 := hM
           clear hM hG hO hd
           clear hz11 hd11 hM11 g0_11 g1_11
           refine then_n ?_
           refine wp_seq ?_
           refine region_seq 46 (fun zz e => (#[.pointer (some ⟨b, 0, none⟩), .pointer (some ⟨b, 0, none⟩), .pointer (some ⟨b, 0, none⟩), .int .u8 ((ov1 m σ r).1), .bool false] : Array Value).getD zz undef) (fun k e w => Mem (List.getD [walkC m pw (ov3 m σ r).2 :: boxC b #[.int .u8 ((ov1 m σ r).1), .int .u8 r.cmd.kind, .int .u8 r.cmd.tick.c, .int .u64 r.cmd.tick.r, .int .u8 r.cmd.at_, .string r.cmd.name, vl, .int .i64 r.cmd.fare, vt, .int .i64 r.cmd.penalty, .int .i64 r.cmd.amount, .int .u8 ((ov2 m σ r).1), .int .u64 ((ov3 m σ r).1), .int .u8 r.msg.kind, .int .u8 r.msg.tick.c, .int .u64 r.msg.tick.r, .int .u8 r.msg.at_, .int .u8 r.msg.leg.c, .int .u16 r.msg.leg.f, .int .u32 r.msg.leg.x, .int .i64 r.msg.value, .int .u8 r.msg.status, .int .u32 r.msg.nonce, .int .i64 r.msg.amount, .int .i64 r.msg.code] :: rowC 36 3 vl r.cmd.legs.length (cellsL legE r.cmd.legs) :: rowC 58 2 vt r.cmd.taxes.length (cellsL taxE r.cmd.taxes) :: R] k []) w) (fun _ => (0, undef)) [] [0, 0, 0, 0, 0] (fun _ _ => false) hz12 (by kernel_rfl) (by kernel_rfl) (by kernel_rfl) ?_ (show Mem _ _ from hM12) ?_ ?_
           · exact ⟨fun _ _ _ => rfl, fun _ _ _ => rfl, fun _ _ _ => rfl, fun _ _ _ => rfl, fun _ _ _ => rfl, trivial⟩
           ·
            refine ⟨?_, ?_, ?_, ?_, ?_, trivial⟩
            · exact op2 (a := 0) rfl fun e w ρ (hM : Mem _ w) E => res_ok (x_move rfl (E.o 1 _ rfl g1_12)) (goes_still rfl rfl hM)
            · exact op2 (a := 0) rfl fun e w ρ (hM : Mem _ w) E => res_ok (x_nil rfl (E.d 0 _ 36 rfl rfl rfl)) (goes_still rfl rfl hM)
            · exact op2 (a := 0) rfl fun e w ρ (hM : Mem _ w) E => res_ok (x_fieldAddr (off := 0) rfl (E.d 1 _ 37 rfl rfl rfl) (by kernel_rfl) rfl) (goes_still rfl rfl hM)
            · exact op2 (a := 0) rfl fun e w ρ (hM : Mem _ w) E => res_ok (x_load rfl (E.d 2 _ 38 rfl rfl rfl) (by kernel_rfl) ((hM.box 1 rfl).cell 0 rfl)) (goes_still rfl rfl hM)
            · exact op2 (a := 0) rfl fun e w ρ (hM : Mem _ w) E => res_ok (x_eql rfl (E.d 3 _ 39 rfl rfl rfl) (E.c _) (decide_eq_false hc2)) (goes_still rfl rfl hM)
           ·
            intro e a13 w13 hz13 hd hG hO hM
            have hd13 := hd.trans hd12
            have g0_13 := (hO 0 rfl).trans g0_12
            have g1_13 := (hO 1 rfl).trans g1_12
            have g40_13 : a13.tmps[40]? = some (.bool false) := hG 4 _ 40 rfl rfl
            have hM13 : Mem (walkC m pw (ov3 m σ r).2 :: boxC b #[.int .u8 ((ov1 m σ r).1), .int .u8 r.cmd.kind, .int .u8 r.cmd.tick.c, .int .u64 r.cmd.tick.r, .int .u8 r.cmd.at_, .string r.cmd.name, vl, .int .i64 r.cmd.fare, vt, .int .i64 r.cmd.penalty, .int .i64 r.cmd.amount, .int .u8 ((ov2 m σ r).1), .int .u64 ((ov3 m σ r).1), .int .u8 r.msg.kind, .int .u8 r.msg.tick.c, .int .u64 r.msg.tick.r, .int .u8 r.msg.at_, .int .u8 r.msg.leg.c, .int .u16 r.msg.leg.f, .int .u32 r.msg.leg.x, .int .i64 r.msg.value, .int .u8 r.msg.status, .int .u32 r.msg.nonce, .int .i64 r.msg.amount, .int .i64 r.msg.code] :: rowC 36 3 vl r.cmd.legs.length (cellsL legE r.cmd.legs) :: rowC 58 2 vt r.cmd.taxes.length (cellsL taxE r.cmd.taxes) :: R) w13 := hM
            clear hM hG hO hd
            clear hz12 hd12 hM12 g0_12 g1_12
            refine then_n ?_
            refine cond_f g40_13 ?_
            refine wp_skip ?_
            refine blk_n ?_
            refine end_r ?_
            refine ret_0 Try.results28 hd13 ?_
            refine ⟨rfl, ?_⟩
            rw [show overF m σ r = _ from (if_neg hc1).trans ((if_neg hc2).trans (if_pos hc3))]
            exact (rec_shut (r := { r with kind := (ov1 m σ r).1, frm := (ov2 m σ r).1, number := (ov3 m σ r).1 }) ((((hM13.front 0 rfl).front 3 rfl).front 3 rfl).front 3 rfl)).front 1 rfl
        ·
         refine cond_f (g23_10.trans (by rw [decide_eq_false hc3])) ?_
         obtain ⟨v2, hM10⟩ := walk_open hM10
         replace hM10 : Mem (boxC pw #[v2, .func (.func (nf m)) #[.pointer (some ⟨pw, 0, none⟩)] #[], .bool ((ov1 m σ r).2.bad)] :: tailC m v2 (ov1 m σ r).2.bs :: boxC b #[.int .u8 ((ov1 m σ r).1), .int .u8 r.cmd.kind, .int .u8 r.cmd.tick.c, .int .u64 r.cmd.tick.r, .int .u8 r.cmd.at_, .string r.cmd.name, vl, .int .i64 r.cmd.fare, vt, .int .i64 r.cmd.penalty, .int .i64 r.cmd.amount, .int .u8 r.frm, .int .u64 r.number, .int .u8 r.msg.kind, .int .u8 r.msg.tick.c, .int .u64 r.msg.tick.r, .int .u8 r.msg.at_, .int .u8 r.msg.leg.c, .int .u16 r.msg.leg.f, .int .u32 r.msg.leg.x, .int .i64 r.msg.value, .int .u8 r.msg.status, .int .u32 r.msg.nonce, .int .i64 r.msg.amount, .int .i64 r.msg.code] :: rowC 36 3 vl r.cmd.legs.length (cellsL legE r.cmd.legs) :: rowC 58 2 vt r.cmd.taxes.length (cellsL taxE r.cmd.taxes) :: R) w10 := hM10
         refine region_seq 46 (fun zz e => (#[.pointer (some ⟨pw, 0, none⟩), .pointer (some ⟨pw, 0, none⟩), .pointer (some ⟨pw, 2, none⟩), undef] : Array Value).getD zz undef) (fun k e w => Mem (List.getD [boxC pw #[v2, .func (.func (nf m)) #[.pointer (some ⟨pw, 0, none⟩)] #[], .bool ((ov1 m σ r).2.bad)] :: tailC m v2 (ov1 m σ r).2.bs :: boxC b #[.int .u8 ((ov1 m σ r).1), .int .u8 r.cmd.kind, .int .u8 r.cmd.tick.c, .int .u64 r.cmd.tick.r, .int .u8 r.cmd.at_, .string r.cmd.name, vl, .int .i64 r.cmd.fare, vt, .int .i64 r.cmd.penalty, .int .i64 r.cmd.amount, .int .u8 r.frm, .int .u64 r.number, .int .u8 r.msg.kind, .int .u8 r.msg.tick.c, .int .u64 r.msg.tick.r, .int .u8 r.msg.at_, .int .u8 r.msg.leg.c, .int .u16 r.msg.leg.f, .int .u32 r.msg.leg.x, .int .i64 r.msg.value, .int .u8 r.msg.status, .int .u32 r.msg.nonce, .int .i64 r.msg.amount, .int .i64 r.msg.code] :: rowC 36 3 vl r.cmd.legs.length (cellsL legE r.cmd.legs) :: rowC 58 2 vt r.cmd.taxes.length (cellsL taxE r.cmd.taxes) :: R, boxC pw #[v2, .func (.func (nf m)) #[.pointer (some ⟨pw, 0, none⟩)] #[], .bool true] :: tailC m v2 (ov1 m σ r).2.bs :: boxC b #[.int .u8 ((ov1 m σ r).1), .int .u8 r.cmd.kind, .int .u8 r.cmd.tick.c, .int .u64 r.cmd.tick.r, .int .u8 r.cmd.at_, .string r.cmd.name, vl, .int .i64 r.cmd.fare, vt, .int .i64 r.cmd.penalty, .int .i64 r.cmd.amount, .int .u8 r.frm, .int .u64 r.number, .int .u8 r.msg.kind, .int .u8 r.msg.tick.c, .int .u64 r.msg.tick.r, .int .u8 r.msg.at_, .int .u8 r.msg.leg.c, .int .u16 r.msg.leg.f, .int .u32 r.msg.leg.x, .int .i64 r.msg.value, .int .u8 r.msg.status, .int .u32 r.msg.nonce, .int .i64 r.msg.amount, .int .i64 r.msg.code] :: rowC 36 3 vl r.cmd.legs.length (cellsL legE r.cmd.legs) :: rowC 58 2 vt r.cmd.taxes.length (cellsL taxE r.cmd.taxes) :: R] k []) w) (fun _ => (0, undef)) [3] [0, 0, 0, 0] (fun _ _ => false) hz10 (by kernel_rfl) (by kernel_rfl) (by kernel_rfl) ?_ (show Mem _ _ from hM10) ?_ ?_
         · exact ⟨fun _ _ _ => rfl, fun _ _ _ => rfl, fun _ _ _ => rfl, fun _ _ _ => rfl, trivial⟩
         ·
          refine ⟨?_, ?_, ?_, ?_, trivial⟩
          · exact op2 (a := 0) rfl fun e w ρ (hM : Mem _ w) E => res_ok (x_move rfl (E.o 0 _ rfl g0_10)) (goes_still rfl rfl hM)
          · exact op2 (a := 0) rfl fun e w ρ (hM : Mem _ w) E => res_ok (x_nil rfl (E.d 0 _ 13 rfl rfl rfl)) (goes_still rfl rfl hM)
          · exact op2 (a := 0) rfl fun e w ρ (hM : Mem _ w) E => res_ok (x_fieldAddr (off := 2) rfl (E.d 1 _ 14 rfl rfl rfl) (by kernel_rfl) rfl) (goes_still rfl rfl hM)
          ·
           refine op2 (a := 0) rfl fun e w ρ (hM : Mem _ w) E => ?_
           have e15 := E.d 2 _ 15 rfl rfl rfl
           obtain ⟨w', hr, hm⟩ := Mem.store (P := Try.prog) hM 0 rfl 4 2 (.bool true) [.bool true] rfl (by kernel_rfl) (Nat.le_of_ble_eq_true rfl) (by rfl)
           exact res_st (x_store rfl (e15) (E.c _) hr) (goes_tick rfl (0, undef) rfl hm)
         ·
          intro e a14 w14 hz14 hd hG hO hM
          have hd14 := hd.trans hd10
          have hM14 : Mem (boxC pw #[v2, .func (.func (nf m)) #[.pointer (some ⟨pw, 0, none⟩)] #[], .bool true] :: tailC m v2 (ov1 m σ r).2.bs :: boxC b #[.int .u8 ((ov1 m σ r).1), .int .u8 r.cmd.kind, .int .u8 r.cmd.tick.c, .int .u64 r.cmd.tick.r, .int .u8 r.cmd.at_, .string r.cmd.name, vl, .int .i64 r.cmd.fare, vt, .int .i64 r.cmd.penalty, .int .i64 r.cmd.amount, .int .u8 r.frm, .int .u64 r.number, .int .u8 r.msg.kind, .int .u8 r.msg.tick.c, .int .u64 r.msg.tick.r, .int .u8 r.msg.at_, .int .u8 r.msg.leg.c, .int .u16 r.msg.leg.f, .int .u32 r.msg.leg.x, .int .i64 r.msg.value, .int .u8 r.msg.status, .int .u32 r.msg.nonce, .int .i64 r.msg.amount, .int .i64 r.msg.code] :: rowC 36 3 vl r.cmd.legs.length (cellsL legE r.cmd.legs) :: rowC 58 2 vt r.cmd.taxes.length (cellsL taxE r.cmd.taxes) :: R) w14 := hM
          clear hM hG hO hd
          clear hz10 hd10 hM10 g0_10 g1_10 g23_10
          refine blk_n ?_
          refine end_r ?_
          refine ret_0 Try.results28 hd14 ?_
          refine ⟨rfl, ?_⟩
          rw [show overF m σ r = _ from (if_neg hc1).trans ((if_neg hc2).trans (if_neg hc3))]
          have hm2 := walk_shut (m := m) (σ := ⟨true, (ov1 m σ r).2.bs⟩) (((((hM14.front 4 rfl).front 4 rfl).front 4 rfl).front 4 rfl).front 4 rfl)
          exact (rec_shut (r := { r with kind := (ov1 m σ r).1 }) (((hm2.front 3 rfl).front 3 rfl).front 3 rfl)).front 1 rfl
end Go.Proofs.Ytfcjmpgbohgoeaa
