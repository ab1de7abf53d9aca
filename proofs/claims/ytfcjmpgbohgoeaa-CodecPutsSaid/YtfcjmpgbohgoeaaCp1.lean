/- CODEC: the document's writer, by running: numbers. -/
import Derived.Test.YtfcjmpgbohgoeaaM26
import Derived.Test.YtfcjmpgbohgoeaaM43
import Derived.Test.YtfcjmpgbohgoeaaCo16
namespace Go.Proofs.Ytfcjmpgbohgoeaa
open Go.RowKit Go.Lib Go.Tk Go.Shelf Go.Vc Go.Sx
set_option linter.unusedVariables false
set_option linter.unusedSimpArgs false
def qd (x : Int) : Nat → Int
  | 0 => x
  | i + 1 => qd x i / 256
theorem qd_eq (x : Int) : ∀ i, qd x i = x / 2 ^ (8 * i)
  | 0 => by simp [qd]
  | i + 1 => by
    unfold qd
    rw [qd_eq x i, Int.ediv_ediv_of_nonneg (Int.pow_nonneg (by decide)), show 8 * (i + 1) = 8 * i + 8 from rfl, Int.pow_add]
    rfl
theorem qd_in {x : Int} (h : 0 ≤ x ∧ x ≤ 18446744073709551615) : ∀ i, 0 ≤ qd x i ∧ qd x i ≤ 18446744073709551615
  | 0 => h
  | i + 1 => by
    have := qd_in h i
    unfold qd
    omega
def u8R (xs : List Value) (n : Nat) : SC := .row 5 1 n (.shal xs) []
def cB (l : List Int) : List Value := l.map (.int .u8)
theorem cB_app (a b : List Int) : cB a ++ cB b = cB (a ++ b) := (List.map_append ..).symm
theorem cB_one (l : List Int) : (cB l).all (·.oneCell') = true := List.all_eq_true.2 fun u hu => by
  obtain ⟨x, -, rfl⟩ := List.mem_map.1 hu; rfl
def NF : Nat := 30
theorem num_rem {y : Int} (h : 0 ≤ y ∧ y ≤ 18446744073709551615) : IntKind.u8.wrap (Int.tmod y 256) = y % 256 := by
  rw [Int.tmod_eq_emod_of_nonneg h.1]
  exact wr_u8 (by omega)
theorem num_quo {y : Int} (h : 0 ≤ y ∧ y ≤ 18446744073709551615) : IntKind.u64.wrap (Int.tdiv y 256) = y / 256 := by
  rw [Int.tdiv_eq_ediv_of_nonneg h.1]
  exact wr_u64 (by omega)
def qdL (x : Int) : Nat → List Int
  | 0 => []
  | i + 1 => qd x i % 256 :: qdL x i
theorem qdL_be (x : Int) (n : Nat) : ∀ i ≤ n, beHi x n (n - i) ++ qdL x i = be x n
  | 0, _ => by simp [qdL, be]
  | i + 1, h => by
    have ih := qdL_be x n i (by omega)
    rw [← ih, show n - i = (n - (i + 1)) + 1 from by omega]
    rw [show beHi x n (n - (i + 1) + 1) = beHi x n (n - (i + 1)) ++ [byteAt x (n - 1 - (n - (i + 1)))] from rfl]
    rw [show n - 1 - (n - (i + 1)) = i from by omega, List.append_assoc]
    unfold byteAt
    rw [← qd_eq]; rfl
theorem qdL_eq (x : Int) (n : Nat) : qdL x n = be x n := by
  have := qdL_be x n n (Nat.le_refl _)
  rw [Nat.sub_self] at this
  exact this
def numH (x : Int) (h : 0 ≤ x ∧ x ≤ 18446744073709551615) (n : Nat) : List (Hint Try.prog) := (List.range n).flatMap fun i => [hI 5 4 .u8 (IntKind.u8.wrap (Int.tmod (qd x i) 256)) (qd x i % 256) (num_rem (qd_in h i)), hI 6 1 .u64 (IntKind.u64.wrap (Int.tdiv (qd x i) 256)) (qd x (i + 1)) (num_quo (qd_in h i))]
theorem number8 (x : Int) (h : 0 ≤ x ∧ x ≤ 18446744073709551615) : CallOK Try.prog NF [.val (.int .u64 x), .val (.int .i64 8)] [] [] (.raw 1 0) [((1, 0), .row 5 1 8 (.deep ((qdL x 8).map fun b => .val (.int .u8 b))) [])] := by
  refine callOK_intro (by kernel_rfl) fun eb R => ?_
  exact leaf_end calNone true 2000 (numH x h 8) calNone_ok (by kernel_rfl)
theorem number4 (x : Int) (h : 0 ≤ x ∧ x ≤ 18446744073709551615) : CallOK Try.prog NF [.val (.int .u64 x), .val (.int .i64 4)] [] [] (.raw 1 0) [((1, 0), .row 5 1 4 (.deep ((qdL x 4).map fun b => .val (.int .u8 b))) [])] := by
  refine callOK_intro (by kernel_rfl) fun eb R => ?_
  exact leaf_end calNone true 2000 (numH x h 4) calNone_ok (by kernel_rfl)
theorem number2 (x : Int) (h : 0 ≤ x ∧ x ≤ 18446744073709551615) : CallOK Try.prog NF [.val (.int .u64 x), .val (.int .i64 2)] [] [] (.raw 1 0) [((1, 0), .row 5 1 2 (.deep ((qdL x 2).map fun b => .val (.int .u8 b))) [])] := by
  refine callOK_intro (by kernel_rfl) fun eb R => ?_
  exact leaf_end calNone true 2000 (numH x h 2) calNone_ok (by kernel_rfl)
theorem deep_cB (l : List Int) (n : Nat) (ε : Env) : hden ε [((1, 0), .row 5 1 n (.deep (l.map fun b => .val (.int .u8 b))) [])] = hden ε [((1, 0), u8R (cB l) n)] := by
  have : SV.dens ε (l.map fun b => SV.val (.int .u8 b)) = cB l := by
    rw [dens_map, List.map_map]; rfl
  simp only [hden, List.map_cons, List.map_nil, u8R, SC.den, SL.den, this]
theorem numb_ok (x : Int) (h : 0 ≤ x ∧ x ≤ 18446744073709551615) (n : Nat) (hn : n = 2 ∨ n = 4 ∨ n = 8) : CallOK Try.prog NF [.val (.int .u64 x), .val (.int .i64 (n : Int))] [] [] (.raw 1 0) [((1, 0), u8R (cB (be x n)) n)] := by
  rw [← qdL_eq]
  rcases hn with rfl | rfl | rfl
  · exact (number2 x h).to_post (deep_cB _ 2)
  · exact (number4 x h).to_post (deep_cB _ 4)
  · exact (number8 x h).to_post (deep_cB _ 8)
def N2 : Nat := 45
theorem num_ok (x : Int) (n : Nat) (hn : n = 2 ∨ n = 4 ∨ n = 8) : CallOK Try.prog N2 [.val (.int .i64 x), .val (.int .i64 (n : Int))] [] [] (.raw 1 0) [((1, 0), u8R (cB (encN x n)) n)] := by
  have h := numb_ok (IntKind.u64.wrap x) (by rw [IntKind.wrap_u64]; omega) n hn
  refine callOK_intro (by kernel_rfl) fun eb R => ?_
  exact leaf_end calNone false 200 [hC 1 3 h] calNone_ok (by kernel_rfl)
theorem enc1 {x : Int} (h : 0 ≤ x ∧ x ≤ 255) : cB (encN x 1) = [.int .u8 x] := by
  have : encN x 1 = [x] := by
    show [byteAt (IntKind.u64.wrap x) 0] = _
    unfold byteAt
    rw [IntKind.wrap_u64]
    simp only [Nat.mul_zero, Int.pow_zero, Int.ediv_one]
    congr 1; omega
  rw [this]; rfl
theorem lenB (n : Nat) : cB (lenBy n) = [.int .u8 (IntKind.u8.wrap (n : Int))] := by
  show [Value.int .u8 (byteAt (n : Int) 0)] = _
  unfold byteAt
  rw [IntKind.wrap_u8]
  simp
theorem bytes_cB (s : ByteArray) : cB (bytesOf s) = byteCells s := by unfold cB bytesOf byteCells; rw [List.map_map]; rfl
theorem text_cB (s : ByteArray) : cB (textBy s) = [.int .u8 (IntKind.u8.wrap (s.size : Int))] ++ byteCells s := by
  unfold textBy; rw [← cB_app, lenB, bytes_cB]
def TXF : Nat := 46
theorem text_w (s : ByteArray) (h : s.size ≤ 1000000) : CallOK Try.prog TXF [.val (.string s)] [] [] (.raw 1 0) [((1, 0), u8R (cB (textBy s)) (1 + s.size))] := by
  rw [text_cB]
  refine callOK_intro (by kernel_rfl) fun eb R => ?_
  exact leaf_end calNone false 200 [.opt 1 5 (.app (1 + s.size) (by omega) (byteCells s) (by rw [← bytes_cB]; exact cB_one _))] calNone_ok (by kernel_rfl)
def TKF : Nat := 44
theorem tick_w (t : TickV) (h : TickIn t) : CallOK Try.prog TKF [.agg (tickS t)] [] [] (.raw 1 0) [((1, 0), u8R (cB (tickBy t)) 9)] := by
  have e : cB (tickBy t) = [.int .u8 t.c] ++ cB (be t.r 8) := by
    unfold tickBy
    rw [← cB_app, enc1 h.c]
    have : IntKind.u64.wrap t.r = t.r := wr_u64 h.r
    unfold encN; rw [this]
  rw [e]
  refine callOK_intro (by kernel_rfl) fun eb R => ?_
  exact leaf_end calNone false 200 [hC 1 5 (numb_ok t.r h.r 8 (by omega)), .opt 1 6 (.app 9 (by decide) (cB (be t.r 8)) (cB_one _))] calNone_ok (by kernel_rfl)
def LGF : Nat := 47
theorem leg_w (l : LegV) (h : LegIn l) : CallOK Try.prog LGF [.agg (legS l)] [] [] (.raw 1 0) [((1, 0), u8R (cB (legBy l)) 7)] := by
  have e : cB (legBy l) = ([.int .u8 l.c] ++ cB (encN l.f 2)) ++ cB (encN l.x 4) := by
    unfold legBy
    rw [← cB_app, ← cB_app, enc1 h.c, List.append_assoc]
  rw [e]
  refine callOK_intro (by kernel_rfl) fun eb R => ?_
  exact leaf_end calNone false 200 [hI 2 3 .i64 (IntKind.i64.wrap l.f) l.f (wr_i64 (by have := h.f; simp only [In] at this; omega)), hC 2 4 (num_ok l.f 2 (by omega)), .opt 2 5 (.app 3 (by decide) (cB (encN l.f 2)) (cB_one _)), hI 3 3 .i64 (IntKind.i64.wrap l.x) l.x (wr_i64 (by have := h.x; simp only [In] at this; omega)), hC 3 4 (num_ok l.x 4 (by omega)), .opt 3 5 (.app 7 (by decide) (cB (encN l.x 4)) (cB_one _))] calNone_ok (by kernel_rfl)
def MGF : Nat := 31
theorem msg_w (m : MsgV) (h : MsgIn m) : CallOK Try.prog MGF [.agg (msgS m)] [] [] (.raw 1 0) [((1, 0), u8R (cB (msgBy m)) 47)] := by
  have e : cB (msgBy m) = (((((((([.int .u8 m.kind] ++ cB (tickBy m.tick)) ++ [.int .u8 m.at_]) ++ cB (legBy m.leg)) ++ cB (encN m.value 8)) ++ [.int .u8 m.status]) ++ cB (encN m.nonce 4)) ++ cB (encN m.amount 8)) ++ cB (encN m.code 8)) := by
    unfold msgBy
    rw [← cB_app, ← cB_app, ← cB_app, ← cB_app, ← cB_app, ← cB_app, ← cB_app, ← cB_app, enc1 h.kind, enc1 h.at_, enc1 h.status]
    simp only [List.append_assoc]
  rw [e]
  refine callOK_intro (by kernel_rfl) fun eb R => ?_
  exact leaf_end calNone false 200 [hC 2 4 (tick_w m.tick h.tick), .opt 2 5 (.app 10 (by decide) (cB (tickBy m.tick)) (cB_one _)),
    hC 4 4 (leg_w m.leg h.leg), .opt 4 5 (.app 18 (by decide) (cB (legBy m.leg)) (cB_one _)),
    hC 5 4 (num_ok m.value 8 (by omega)), .opt 5 5 (.app 26 (by decide) (cB (encN m.value 8)) (cB_one _)),
    hI 7 4 .i64 (IntKind.i64.wrap m.nonce) m.nonce (wr_i64 (by have := h.nonce; simp only [In] at this; omega)), hC 7 5 (num_ok m.nonce 4 (by omega)), .opt 7 6 (.app 31 (by decide) (cB (encN m.nonce 4)) (cB_one _)),
    hC 8 3 (num_ok m.amount 8 (by omega)), .opt 8 4 (.app 39 (by decide) (cB (encN m.amount 8)) (cB_one _)),
    hC 9 3 (num_ok m.code 8 (by omega)), .opt 9 4 (.app 47 (by decide) (cB (encN m.code 8)) (cB_one _))] calNone_ok (by kernel_rfl)
end Go.Proofs.Ytfcjmpgbohgoeaa
