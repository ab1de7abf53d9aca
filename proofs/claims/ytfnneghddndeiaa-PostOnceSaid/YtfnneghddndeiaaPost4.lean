/- POST 4: Push, Ack, Took, Len, Given, Last. -/
import Derived.Test.YtfnneghddndeiaaPost3
namespace Go.Proofs.Ytfnneghddndeiaa
open Go.RowKit Go.Lib Go.Tk Go.Shelf Go.Maps
attribute [-go_sem] loadCellsFrom
theorem PostDid.from {w w1 : World} {base : Nat} {A : PostA} {P : PostV} {r : Int × PostV} {e : Ending} {w' : World} (h : PostDid w1 base A P r e w') (hb : Below w.heap.size w w1) : PostDid w base A P r e w' := by
  obtain ⟨he, A', h1, h2, h3, h4⟩ := h
  refine ⟨he, A', h1, fun k hk => ?_, h3, (fr_below (postFoot A P) hb).trans h4 (fun _ _ x => x)⟩
  rcases h2 k hk with h | h
  · exact .inl h
  · exact .inr (Nat.le_trans hb.size h)
theorem PostDid.same {w w' : World} {base : Nat} {A : PostA} {P : PostV} {k : Int} (h : PostIn w base A P) (hb : Below w.heap.size w w') : PostDid w base A P (k, P) (.returned (.int .i64 k)) w' :=
  ⟨rfl, A, h.kept hb, fun _ hk => .inl hk, rfl, fr_below _ hb⟩
set_option maxRecDepth 100000 in
set_option maxHeartbeats 2000000 in
theorem push_any (base : Nat) (A : PostA) (P : PostV) (c : Int) (m : Msg) (w : World) (h : PostIn w base A P) (ok : PostOk P) (h0 : 0 ≤ c) (h1 : c ≤ 255) (hbase : base ≤ w.heap.size) :
    Calls Try.prog 8 #[.pointer (some ⟨A.pb, 0, none⟩), .int .u8 c, msgAgg m] w (PostDid w base A P (doP (fun X => pushX X m) P c)) := by
  obtain ⟨n, rfl⟩ : ∃ n : Nat, c = n := ⟨c.toNat, by omega⟩
  obtain ⟨w1, hw1⟩ : ∃ w1, w1 = w.alloc (.cells (encMsg m).toArray 44) := ⟨_, rfl⟩
  have b1 : Below w.heap.size w w1 := by rw [hw1]; exact below_alloc _ _
  have xm : Box w1 w.heap.size (encMsg m).toArray := by rw [hw1]; exact Box.new rfl
  have H1 := h.kept b1
  have B1 := hid b1
  unfold encMsg at hw1
  have HW := hid hw1
  cases ho : P.other n with
  | false =>
    have K := hid (fun f => at_not base A P n f w1 H1 h0 h1 ho)
    have F := hid (show PostDid w base A P (doP (fun X => pushX X m) P n) (.returned (.int .i64 1)) w1 by unfold doP; rw [if_neg (by rw [ho]; decide)]; exact PostDid.same h b1)
    clear H1 hw1 b1 xm h ok
    unfold msgAgg
    go_enter Try.func8, Try.ntmps8
    go_wp2_with fail
    rw [← HW.out]
    refine (K.out _).mono ?_
    rintro e w2 ⟨rfl, rfl⟩
    go_wp2
    go_ret
    exact F.out
  | true =>
    have hne : w.heap.size ≠ A.bx n := Nat.ne_of_gt (h.box n ho).cells.lt
    have K0 := push1_any base (A.bx n) w.heap.size (A.vs n) (P.box n) m w1 (H1.box n ho) (ok.box n) xm (Nat.le_trans hbase b1.size)
    have K := hid (at_box base A P n 18 (.pointer (some ⟨w.heap.size, 0, none⟩)) w1 _ H1 (by omega) ho K0 (fun e w' hr => ⟨_, hr.1⟩) enters_push)
    have F := hid (fun e w' (hr : BoxDid w1 base (A.bx n) (A.vs n) (pushX (P.box n) m) e w') => (did_box (f := fun X => pushX X m) H1 ho hr).from b1)
    clear H1 hw1 b1 xm h ok K0
    unfold msgAgg
    go_enter Try.func8, Try.ntmps8
    go_wp2_with fail
    rw [← HW.out]
    refine K.out.mono ?_
    intro e w2 hr
    have HR := hid (F.out e w2 hr)
    obtain ⟨rfl, -⟩ := hr
    go_wp2
    go_ret
    exact HR.out
set_option maxRecDepth 100000 in
set_option maxHeartbeats 2000000 in
theorem ack_any (base : Nat) (A : PostA) (P : PostV) (c k : Int) (w : World) (h : PostIn w base A P) (ok : PostOk P) (h0 : 0 ≤ c) (h1 : c ≤ 255) (k0 : 0 ≤ k) (k1 : k ≤ 18446744073709551615) :
    Calls Try.prog 12 #[.pointer (some ⟨A.pb, 0, none⟩), .int .u8 c, .int .u64 k] w (PostDid w base A P (doP (fun X => ackX X k) P c)) := by
  obtain ⟨n, rfl⟩ : ∃ n : Nat, c = n := ⟨c.toNat, by omega⟩
  obtain ⟨w1, hw1⟩ : ∃ w1, w1 = w.alloc (.cells #[.int .u64 k] 31) := ⟨_, rfl⟩
  have b1 : Below w.heap.size w w1 := by rw [hw1]; exact below_alloc _ _
  have xm : Box w1 w.heap.size #[.int .u64 k] := by rw [hw1]; exact Box.new rfl
  have H1 := h.kept b1
  have HW := hid hw1
  cases ho : P.other n with
  | false =>
    have K := hid (fun f => at_not base A P n f w1 H1 h0 h1 ho)
    have F := hid (show PostDid w base A P (doP (fun X => ackX X k) P n) (.returned (.int .i64 1)) w1 by unfold doP; rw [if_neg (by rw [ho]; decide)]; exact PostDid.same h b1)
    clear H1 hw1 b1 xm h ok
    go_enter Try.func12, Try.ntmps12
    go_wp2_with fail
    rw [← HW.out]
    refine (K.out _).mono ?_
    rintro e w2 ⟨rfl, rfl⟩
    go_wp2
    go_ret
    exact F.out
  | true =>
    have K0 := ack1_any base (A.bx n) w.heap.size (A.vs n) (P.box n) k w1 (H1.box n ho) (ok.box n) xm k0 k1
    have K := hid (at_box base A P n 22 (.pointer (some ⟨w.heap.size, 0, none⟩)) w1 _ H1 (by omega) ho K0 (fun e w' hr => ⟨_, hr.1⟩) enters_ack)
    have F := hid (fun e w' (hr : BoxDid w1 base (A.bx n) (A.vs n) (ackX (P.box n) k) e w') => (did_box (f := fun X => ackX X k) H1 ho hr).from b1)
    clear H1 hw1 b1 xm h ok K0
    go_enter Try.func12, Try.ntmps12
    go_wp2_with fail
    rw [← HW.out]
    refine K.out.mono ?_
    intro e w2 hr
    have HR := hid (F.out e w2 hr)
    obtain ⟨rfl, -⟩ := hr
    go_wp2
    go_ret
    exact HR.out
set_option maxRecDepth 100000 in
set_option maxHeartbeats 2000000 in
theorem took_any (base : Nat) (A : PostA) (P : PostV) (c k : Int) (w : World) (h : PostIn w base A P) (ok : PostOk P) (h0 : 0 ≤ c) (h1 : c ≤ 255) (k0 : 0 ≤ k) (k1 : k ≤ 18446744073709551615) :
    Calls Try.prog 10 #[.pointer (some ⟨A.pb, 0, none⟩), .int .u8 c, .int .u64 k] w (PostDid w base A P (doP (fun X => tookX X k) P c)) := by
  obtain ⟨n, rfl⟩ : ∃ n : Nat, c = n := ⟨c.toNat, by omega⟩
  obtain ⟨w1, hw1⟩ : ∃ w1, w1 = w.alloc (.cells #[.int .u64 k] 31) := ⟨_, rfl⟩
  have b1 : Below w.heap.size w w1 := by rw [hw1]; exact below_alloc _ _
  have xm : Box w1 w.heap.size #[.int .u64 k] := by rw [hw1]; exact Box.new rfl
  have H1 := h.kept b1
  have HW := hid hw1
  cases ho : P.other n with
  | false =>
    have K := hid (fun f => at_not base A P n f w1 H1 h0 h1 ho)
    have F := hid (show PostDid w base A P (doP (fun X => tookX X k) P n) (.returned (.int .i64 1)) w1 by unfold doP; rw [if_neg (by rw [ho]; decide)]; exact PostDid.same h b1)
    clear H1 hw1 b1 xm h ok
    go_enter Try.func10, Try.ntmps10
    go_wp2_with fail
    rw [← HW.out]
    refine (K.out _).mono ?_
    rintro e w2 ⟨rfl, rfl⟩
    go_wp2
    go_ret
    exact F.out
  | true =>
    have K0 := took1_any base (A.bx n) w.heap.size (A.vs n) (P.box n) k w1 (H1.box n ho) (ok.box n) xm k0 k1
    have K := hid (at_box base A P n 20 (.pointer (some ⟨w.heap.size, 0, none⟩)) w1 _ H1 (by omega) ho K0 (fun e w' hr => ⟨_, hr.1⟩) enters_took)
    have F := hid (fun e w' (hr : BoxDid w1 base (A.bx n) (A.vs n) (tookX (P.box n) k) e w') => (did_box (f := fun X => tookX X k) H1 ho hr).from b1)
    clear H1 hw1 b1 xm h ok K0
    go_enter Try.func10, Try.ntmps10
    go_wp2_with fail
    rw [← HW.out]
    refine K.out.mono ?_
    intro e w2 hr
    have HR := hid (F.out e w2 hr)
    obtain ⟨rfl, -⟩ := hr
    go_wp2
    go_ret
    exact HR.out
theorem len_results {w : World} {b : Nat} {n : Int} {tmps : Array Value} (h4 : tmps[4]?.getD undef = .pointer (some ⟨b, 0, none⟩)) (hc : w.cell? ⟨b, 0, none⟩ = some (.int .i64 n)) : (results Try.f14 tmps).run Try.prog w = .ok (.int .i64 n) w := by
  unfold results
  rw [Try.results14]
  simp [go_sem, h4, hc]
def lenP (P : PostV) (c : Int) : Int := if P.other c then ((P.box c.toNat).wait.length : Int) else 0
set_option maxRecDepth 100000 in
set_option maxHeartbeats 2000000 in
theorem len_any (base : Nat) (A : PostA) (P : PostV) (c : Int) (w : World) (h : PostIn w base A P) (h0 : 0 ≤ c) (h1 : c ≤ 255) :
    Calls Try.prog 14 #[.pointer (some ⟨A.pb, 0, none⟩), .int .u8 c] w fun e w' => e = .returned (.int .i64 (lenP P c)) ∧ Below w.heap.size w w' := by
  obtain ⟨n, rfl⟩ : ∃ n : Nat, c = n := ⟨c.toNat, by omega⟩
  obtain ⟨w1, hw1⟩ : ∃ w1, w1 = w.alloc (.cells #[.int .i64 0] 3) := ⟨_, rfl⟩
  have b1 : Below w.heap.size w w1 := by rw [hw1]; exact below_alloc _ _
  have xm : Box w1 w.heap.size #[.int .i64 0] := by rw [hw1]; exact Box.new rfl
  have H1 := h.kept b1
  have HW := hid hw1
  have B1 := hid b1
  have XM := hid xm
  cases ho : P.other n with
  | false =>
    have K := hid (fun f => at_not base A P n f w1 H1 h0 h1 ho)
    have F := hid (show lenP P n = 0 by unfold lenP; rw [if_neg (by rw [ho]; decide)])
    have c0 : w1.cell? ⟨w.heap.size, 0, none⟩ = some (.int .i64 0) := xm.cell 0 rfl
    have f0 := xm.free 0
    clear H1 hw1 b1 xm h
    go_enter Try.func14, Try.ntmps14
    go_wp2_with fail
    rw [← HW.out]
    refine (K.out _).mono ?_
    rintro e w2 ⟨rfl, rfl⟩
    go_wp2
    refine bodyPost_ret (len_results (n := 0) rfl ?_) rfl ?_
    · exact (XM.out.set 0 _).cell 0 rfl
    · exact ⟨by rw [F.out], B1.out.setCell (p := ⟨w.heap.size, 0, none⟩) (Nat.le_refl _) _⟩
  | true =>
    have K0 := len1_any base (A.bx n) w.heap.size (A.vs n) (.int .i64 0) (P.box n) w1 (H1.box n ho) xm
    have K := hid (at_box base A P n 25 (.pointer (some ⟨w.heap.size, 0, none⟩)) w1 _ H1 (by omega) ho K0 (fun e w' hr => ⟨_, hr.1⟩) enters_len)
    clear H1 hw1 b1 xm h K0
    go_enter Try.func14, Try.ntmps14
    go_wp2_with fail
    rw [← HW.out]
    refine K.out.mono ?_
    rintro e w2 ⟨rfl, hw2⟩
    have x2 : Box w2 w.heap.size #[.int .i64 (P.box n).wait.length] := by rw [hw2]; exact XM.out.set 0 _
    have c0 : w2.cell? ⟨w.heap.size, 0, none⟩ = some (.int .i64 (P.box n).wait.length) := x2.cell 0 rfl
    have f0 := x2.free 0
    have B2 := hid (show Below w.heap.size w w2 by rw [hw2]; exact B1.out.setCell (p := ⟨w.heap.size, 0, none⟩) (Nat.le_refl _) _)
    have X2 := hid x2
    clear x2 hw2
    have F := hid (show lenP P n = (P.box n).wait.length by unfold lenP; rw [if_pos ho, Int.toNat_natCast])
    go_wp2
    refine bodyPost_ret (len_results (n := (P.box n).wait.length) rfl ?_) rfl ?_
    · exact (X2.out.set 0 _).cell 0 rfl
    · exact ⟨by rw [F.out], B2.out.setCell (p := ⟨w.heap.size, 0, none⟩) (Nat.le_refl _) _⟩
theorem given_results {w : World} {b : Nat} {n : Int} {tmps : Array Value} (h4 : tmps[4]?.getD undef = .pointer (some ⟨b, 0, none⟩)) (hc : w.cell? ⟨b, 0, none⟩ = some (.int .u64 n)) : (results Try.f13 tmps).run Try.prog w = .ok (.int .u64 n) w := by
  unfold results
  rw [Try.results13]
  simp [go_sem, h4, hc]
def givenP (P : PostV) (c : Int) : Int := if P.other c then (P.box c.toNat).given else 0
set_option maxRecDepth 100000 in
set_option maxHeartbeats 2000000 in
theorem given_any (base : Nat) (A : PostA) (P : PostV) (c : Int) (w : World) (h : PostIn w base A P) (h0 : 0 ≤ c) (h1 : c ≤ 255) :
    Calls Try.prog 13 #[.pointer (some ⟨A.pb, 0, none⟩), .int .u8 c] w fun e w' => e = .returned (.int .u64 (givenP P c)) ∧ Below w.heap.size w w' := by
  obtain ⟨n, rfl⟩ : ∃ n : Nat, c = n := ⟨c.toNat, by omega⟩
  obtain ⟨w1, hw1⟩ : ∃ w1, w1 = w.alloc (.cells #[.int .u64 0] 31) := ⟨_, rfl⟩
  have b1 : Below w.heap.size w w1 := by rw [hw1]; exact below_alloc _ _
  have xm : Box w1 w.heap.size #[.int .u64 0] := by rw [hw1]; exact Box.new rfl
  have H1 := h.kept b1
  have HW := hid hw1
  have B1 := hid b1
  have XM := hid xm
  cases ho : P.other n with
  | false =>
    have K := hid (fun f => at_not base A P n f w1 H1 h0 h1 ho)
    have F := hid (show givenP P n = 0 by unfold givenP; rw [if_neg (by rw [ho]; decide)])
    have c0 : w1.cell? ⟨w.heap.size, 0, none⟩ = some (.int .u64 0) := xm.cell 0 rfl
    have f0 := xm.free 0
    clear H1 hw1 b1 xm h
    go_enter Try.func13, Try.ntmps13
    go_wp2_with fail
    rw [← HW.out]
    refine (K.out _).mono ?_
    rintro e w2 ⟨rfl, rfl⟩
    go_wp2
    refine bodyPost_ret (given_results (n := 0) rfl ?_) rfl ?_
    · exact (XM.out.set 0 _).cell 0 rfl
    · exact ⟨by rw [F.out], B1.out.setCell (p := ⟨w.heap.size, 0, none⟩) (Nat.le_refl _) _⟩
  | true =>
    have K0 := given1_any base (A.bx n) w.heap.size (A.vs n) (.int .u64 0) (P.box n) w1 (H1.box n ho) xm
    have K := hid (at_box base A P n 24 (.pointer (some ⟨w.heap.size, 0, none⟩)) w1 _ H1 (by omega) ho K0 (fun e w' hr => ⟨_, hr.1⟩) enters_given)
    clear H1 hw1 b1 xm h K0
    go_enter Try.func13, Try.ntmps13
    go_wp2_with fail
    rw [← HW.out]
    refine K.out.mono ?_
    rintro e w2 ⟨rfl, hw2⟩
    have x2 : Box w2 w.heap.size #[.int .u64 (P.box n).given] := by rw [hw2]; exact XM.out.set 0 _
    have c0 : w2.cell? ⟨w.heap.size, 0, none⟩ = some (.int .u64 (P.box n).given) := x2.cell 0 rfl
    have f0 := x2.free 0
    have B2 := hid (show Below w.heap.size w w2 by rw [hw2]; exact B1.out.setCell (p := ⟨w.heap.size, 0, none⟩) (Nat.le_refl _) _)
    have X2 := hid x2
    clear x2 hw2
    have F := hid (show givenP P n = (P.box n).given by unfold givenP; rw [if_pos ho, Int.toNat_natCast])
    go_wp2
    refine bodyPost_ret (given_results (n := (P.box n).given) rfl ?_) rfl ?_
    · exact (X2.out.set 0 _).cell 0 rfl
    · exact ⟨by rw [F.out], B2.out.setCell (p := ⟨w.heap.size, 0, none⟩) (Nat.le_refl _) _⟩
theorem last_results {w : World} {b : Nat} {n : Int} {tmps : Array Value} (h4 : tmps[4]?.getD undef = .pointer (some ⟨b, 0, none⟩)) (hc : w.cell? ⟨b, 0, none⟩ = some (.int .u64 n)) : (results Try.f11 tmps).run Try.prog w = .ok (.int .u64 n) w := by
  unfold results
  rw [Try.results11]
  simp [go_sem, h4, hc]
def lastP (P : PostV) (c : Int) : Int := if P.other c then (P.box c.toNat).last else 0
set_option maxRecDepth 100000 in
set_option maxHeartbeats 2000000 in
theorem last_any (base : Nat) (A : PostA) (P : PostV) (c : Int) (w : World) (h : PostIn w base A P) (h0 : 0 ≤ c) (h1 : c ≤ 255) :
    Calls Try.prog 11 #[.pointer (some ⟨A.pb, 0, none⟩), .int .u8 c] w fun e w' => e = .returned (.int .u64 (lastP P c)) ∧ Below w.heap.size w w' := by
  obtain ⟨n, rfl⟩ : ∃ n : Nat, c = n := ⟨c.toNat, by omega⟩
  obtain ⟨w1, hw1⟩ : ∃ w1, w1 = w.alloc (.cells #[.int .u64 0] 31) := ⟨_, rfl⟩
  have b1 : Below w.heap.size w w1 := by rw [hw1]; exact below_alloc _ _
  have xm : Box w1 w.heap.size #[.int .u64 0] := by rw [hw1]; exact Box.new rfl
  have H1 := h.kept b1
  have HW := hid hw1
  have B1 := hid b1
  have XM := hid xm
  cases ho : P.other n with
  | false =>
    have K := hid (fun f => at_not base A P n f w1 H1 h0 h1 ho)
    have F := hid (show lastP P n = 0 by unfold lastP; rw [if_neg (by rw [ho]; decide)])
    have c0 : w1.cell? ⟨w.heap.size, 0, none⟩ = some (.int .u64 0) := xm.cell 0 rfl
    have f0 := xm.free 0
    clear H1 hw1 b1 xm h
    go_enter Try.func11, Try.ntmps11
    go_wp2_with fail
    rw [← HW.out]
    refine (K.out _).mono ?_
    rintro e w2 ⟨rfl, rfl⟩
    go_wp2
    refine bodyPost_ret (last_results (n := 0) rfl ?_) rfl ?_
    · exact (XM.out.set 0 _).cell 0 rfl
    · exact ⟨by rw [F.out], B1.out.setCell (p := ⟨w.heap.size, 0, none⟩) (Nat.le_refl _) _⟩
  | true =>
    have K0 := last1_any base (A.bx n) w.heap.size (A.vs n) (.int .u64 0) (P.box n) w1 (H1.box n ho) xm
    have K := hid (at_box base A P n 21 (.pointer (some ⟨w.heap.size, 0, none⟩)) w1 _ H1 (by omega) ho K0 (fun e w' hr => ⟨_, hr.1⟩) enters_last)
    clear H1 hw1 b1 xm h K0
    go_enter Try.func11, Try.ntmps11
    go_wp2_with fail
    rw [← HW.out]
    refine K.out.mono ?_
    rintro e w2 ⟨rfl, hw2⟩
    have x2 : Box w2 w.heap.size #[.int .u64 (P.box n).last] := by rw [hw2]; exact XM.out.set 0 _
    have c0 : w2.cell? ⟨w.heap.size, 0, none⟩ = some (.int .u64 (P.box n).last) := x2.cell 0 rfl
    have f0 := x2.free 0
    have B2 := hid (show Below w.heap.size w w2 by rw [hw2]; exact B1.out.setCell (p := ⟨w.heap.size, 0, none⟩) (Nat.le_refl _) _)
    have X2 := hid x2
    clear x2 hw2
    have F := hid (show lastP P n = (P.box n).last by unfold lastP; rw [if_pos ho, Int.toNat_natCast])
    go_wp2
    refine bodyPost_ret (last_results (n := (P.box n).last) rfl ?_) rfl ?_
    · exact (X2.out.set 0 _).cell 0 rfl
    · exact ⟨by rw [F.out], B2.out.setCell (p := ⟨w.heap.size, 0, none⟩) (Nat.le_refl _) _⟩
end Go.Proofs.Ytfnneghddndeiaa
