/- Post6, QuietRound. -/
import Derived.Test.YtfnneghddndeiaaPost5
import Derived.RangeFuncBox
import Derived.RangeFuncNested
import Derived.RangeFuncBound
import Derived.RangeFuncCalls
import Derived.RangeFuncLeaves
import Derived.Shelf.Abstract
import Derived.Shelf.RegionOpen
import Derived.WalkKit
import Derived.OwnWalkIn
import Derived.TacticsInMore
import Derived.LoopNIn
import Derived.LoopIn
import Derived.Sort.BigQuietIn
set_option maxRecDepth 100000
set_option linter.unusedVariables false
set_option linter.unusedSimpArgs false
set_option linter.unusedSectionVars false
section
namespace Go.Proofs.Ytfnneghddndeiaa
open Go.RowKit Go.Lib Go.Tk Go.Shelf Go.Maps
attribute [local go_sem] Oper.semAt_some
abbrev Car (P : PostV) := { c : Nat // P.other c = true }
def carK (P : PostV) (k : Nat) : List (Car P) := (List.range k).filterMap fun (c : Nat) => if h : P.other (c : Int) = true then some ⟨c, h⟩ else none
theorem carK_yes {P : PostV} {k : Nat} (h : P.other k = true) : carK P (k + 1) = carK P k ++ [⟨k, h⟩] := by
  unfold carK
  rw [List.range_succ, List.filterMap_append]
  simp [h]
theorem carK_no {P : PostV} {k : Nat} (h : P.other k = false) : carK P (k + 1) = carK P k := by
  unfold carK
  rw [List.range_succ, List.filterMap_append]
  simp [h]
theorem carK_len (P : PostV) : ∀ k, (carK P k).length ≤ k
  | 0 => by simp [carK]
  | k + 1 => by
    have := carK_len P k
    cases h : P.other k with
    | true => rw [carK_yes h, List.length_append]; simp; omega
    | false => rw [carK_no h]; omega
theorem carK_pre (P : PostV) {k : Nat} : ∀ j, carK P k <+: carK P (k + j)
  | 0 => List.prefix_refl _
  | j + 1 => by
    have ih := carK_pre P (k := k) j
    cases h : P.other (k + j : Nat) with
    | true => rw [← Nat.add_assoc, carK_yes h]; exact ih.trans (List.prefix_append _ _)
    | false => rw [← Nat.add_assoc, carK_no h]; exact ih
theorem carK_lt {P : PostV} {k : Nat} (h : P.other k = true) {n : Nat} (hk : k < n) : (carK P k).length < (carK P n).length := by
  obtain ⟨j, rfl⟩ : ∃ j, n = k + 1 + j := ⟨n - (k + 1), by omega⟩
  have h1 := (carK_pre P (k := k + 1) j).length_le
  rw [carK_yes h, List.length_append] at h1
  simp at h1
  omega
abbrev encCar (A : PostA) {P : PostV} (x : Car P) : Array Value := #[.int .u8 (x.1 : Int), .pointer (some ⟨A.bx x.1, 0, none⟩)]
theorem PostIn.mapLook {w : World} {base : Nat} {A : PostA} {P : PostV} (h : PostIn w base A P) (c : Nat) (hc : c ≤ 255) :
    (Instr.lookup 60 (.map (some A.mb)) (.int .u8 (c : Int)) false).run Try.prog w = .ok (if P.other c then .pointer (some ⟨A.bx c, 0, none⟩) else .pointer none) w := by
  have hw : (Lit.int .u8 (c : Int)).wf = true := by simp [Lit.wf, IntKind.min, IntKind.max, IntKind.signed, IntKind.bits]; omega
  have := h.map.lookup (w := w) Try.underlying60 zeroPtr (x := (c : Int)) hw false
  rw [show u8K.kv (c : Int) = .int .u8 (c : Int) from rfl] at this
  rw [this, lk_box]
  simp only [Bool.false_eq_true, if_false]
  by_cases ho : P.other c = true
  · rw [if_pos ho, if_pos ho]; rfl
  · rw [if_neg ho, if_neg ho]; rfl
def KpB (n₀ B : Nat) (X Y : World) : Prop := Below n₀ X Y ∧ Y.heap[B]? = X.heap[B]?
theorem KpB.trans {n₀ B : Nat} {X Y Z : World} (h : KpB n₀ B X Y) (k : KpB n₀ B Y Z) : KpB n₀ B X Z := ⟨h.1.trans k.1, k.2.trans h.2⟩
set_option maxRecDepth 100000 in
set_option maxHeartbeats 4000000 in
theorem all1_in (F : Fence) (n : Nat) (hF : F.fn 27) (hro : F.round = none) (_hn : 1 ≤ n) (l Bn base : Nat) (A : PostA) (P : PostV) (ok : PostOk P) (J Jx : List (Car P) → World → Prop) (w W : World)
    (hY : ∀ pre x W1, J pre W1 → pre.length < (carK P P.n.toNat).length → YieldAt F (n - 1) Try.prog l (encCar A x) W1 fun e W' =>
      (e = .returned (.bool true) ∧ J (pre ++ [x]) W' ∧ KpB w.heap.size Bn W1 W') ∨ (e = .returned (.bool false) ∧ Jx (pre ++ [x]) W'))
    (hW : Below w.heap.size w W) (hP : PostIn w base A P) (hBn : W.cell? ⟨Bn, 0, none⟩ = some (.pointer (some ⟨A.pb, 0, none⟩))) (h0 : J [] W) :
    CallsIn F n Try.prog 27 #[.func (.yield l) #[] #[], .pointer (some ⟨Bn, 0, none⟩)] W fun e W' => (∃ v, e = .returned v) ∧
      ((∃ ys, ys = carK P P.n.toNat ∧ J ys W') ∨ (∃ pre, pre <+: carK P P.n.toNat ∧ Jx pre W')) := by
  have n0 := ok.n0
  have n1 := ok.n1
  have hw8 : IntKind.u8.wrap P.n = P.n := by rw [IntKind.wrap_u8]; omega
  have HP := hid (fun (w' : World) (hb : Below w.heap.size w w') => hP.kept hb)
  have HY := hid hY
  have cb := hBn
  have c1 : W.cell? ⟨A.pb, 1, none⟩ = some (.int .i64 P.n) := (HP.out _ hW).head.cell 1 rfl
  have HW := hid hW
  have HBN := hid hBn
  clear hY hP hBn hW ok
  refine callsIn_of_wp Try.func27 rfl hF ?_ hro
  simp only [Try.ntmps27, List.size_toArray, List.length_cons, List.length_nil, Nat.reduceAdd, Nat.reduceSub, Array.replicate_succ, Array.replicate_zero, List.push_toArray, List.append_toArray, List.nil_append, List.cons_append]
  gi_wp2
  clear c1 cb
  gi_loopw [12] (fun i wr => ∃ k : Nat, (k : Int) ≤ P.n ∧ i = .int .u8 k ∧ J (carK P k) wr ∧ Aside (Below w.heap.size w wr) ∧ Aside (wr.cell? ⟨Bn, 0, none⟩ = some (.pointer (some ⟨A.pb, 0, none⟩))))
    (fun i _ => P.n.toNat - (RowKit.intOf i).toNat)
  case atStart => exact ⟨0, by omega, rfl, h0, HW.out, HBN.out⟩
  case round =>
    obtain ⟨k, hk, rfl, hJ, hB, hBc⟩ := hrel
    by_cases hlt : (k : Int) < P.n
    · have cb := hBc.out
      have hPI := HP.out _ hB.out
      have c2 : wr.cell? ⟨A.pb, 2, none⟩ = some (.map (some A.mb)) := hPI.head.cell 2 rfl
      have hlk := hPI.mapLook k (by omega)
      have hwk : IntKind.u8.wrap ((k : Int) + 1) = k + 1 := by rw [IntKind.wrap_u8]; omega
      clear hPI
      cases ho : P.other k with
      | false =>
        have hc := carK_no ho
        rw [ho] at hlk
        simp only [Bool.false_eq_true, if_false] at hlk
        gi_wp2
        refine ⟨fun _ h => (by cases h), ?_⟩
        gi_wp2
        go_roundw
        case rel => exact ⟨k + 1, by omega, by first | rfl | go_num, by rw [hc]; exact hJ, hB, hBc⟩
        case measure => simp [RowKit.intOf]; omega
      | true =>
        have hc := carK_yes ho
        rw [ho] at hlk
        simp only [if_true] at hlk
        obtain ⟨fn, tmps, assign, body, hy, hR⟩ := HY.out _ ⟨k, ho⟩ wr hJ (carK_lt ho (by omega))
        unfold encCar at hy
        dsimp only at hy
        gi_wp2
        refine hR.mono ?_
        rintro e W3 (⟨rfl, hJ3, hk3⟩ | ⟨rfl, hJx3⟩)
        · gi_wp2
          go_roundw
          case rel => exact ⟨k + 1, by omega, by first | rfl | go_num, by rw [hc]; exact hJ3, hB.out.trans hk3.1, (World.cell?_of_block (a := ⟨Bn, 0, none⟩) hk3.2).trans hBc.out⟩
          case measure => simp [RowKit.intOf]; omega
        · gi_wp2
          refine bodyPost_ret (results_none rfl _ _ _) rfl ?_
          refine ⟨⟨_, rfl⟩, .inr ⟨carK P k ++ [⟨k, ho⟩], ?_, hJx3⟩⟩
          rw [← hc]
          obtain ⟨j, hj⟩ : ∃ j, P.n.toNat = k + 1 + j := ⟨P.n.toNat - (k + 1), by omega⟩
          rw [hj]
          exact carK_pre P j
    · have e : k = P.n.toNat := by omega
      subst e
      gi_wp2
      go_end0
      exact ⟨⟨_, rfl⟩, .inl hJ⟩
theorem all_in (F : Fence) (n : Nat) (hF : F.fn 19) (hro : F.round = none) (p : Option Addr) (w : World) :
    CallsIn F n Try.prog 19 #[.pointer p] w fun e w' => e = .returned (.func (.func 27) #[] #[.pointer (some ⟨w.heap.size, 0, none⟩)]) ∧ w' = w.alloc (.cells #[.pointer p] 24) := by
  refine callsIn_of_wp Try.func19 rfl hF ?_ hro
  simp only [Try.ntmps19, List.size_toArray, List.length_cons, List.length_nil, Nat.reduceAdd, Nat.reduceSub, Array.replicate_succ, Array.replicate_zero, List.push_toArray, List.append_toArray, List.nil_append, List.cons_append]
  gi_wp2
  go_ret
  exact ⟨rfl, rfl⟩
theorem all_stops (F : Fence) (n : Nat) (hF : F.fn 27) (hro : F.round = none) (hn : 1 ≤ n) (Bn base : Nat) (A : PostA) (P : PostV) (ok : PostOk P) (w w3 : World) (hb : Below w.heap.size w w3) (hP : PostIn w base A P)
    (hBl : Bn < w3.heap.size) (hBn : w3.cell? ⟨Bn, 0, none⟩ = some (.pointer (some ⟨A.pb, 0, none⟩))) :
    SeqStopsK F n Try.prog 27 #[.pointer (some ⟨Bn, 0, none⟩)] (encCar A (P := P)) (KpB w.heap.size Bn) (fun ys => ys = carK P P.n.toNat) (fun pre => pre <+: carK P P.n.toNat) (carK P P.n.toNat).length w3 := fun l J Jx W hW _ _ hY h0 =>
  all1_in F n hF hro hn l Bn base A P ok J Jx w W hY (hb.trans (hW.mono hb.size)) hP ((hW.cell (p := ⟨Bn, 0, none⟩) hBl).trans hBn) h0
end Go.Proofs.Ytfnneghddndeiaa
end
section
namespace Go
section
variable {F : Fence} {n : Nat} {P : Program} {ops : Array Oper} {C : World → Prop}
theorem Oper.wpIn_of_quiet_round {o : Oper} {a : Act} {K : Act → Prop} {K' : Act → World → Prop} {Q' : Exit → Act → World → Prop} {w : World} (hd : ∀ c, o.op ≠ .defer c) (hw : C w) (h : ∀ a w', C w' → K a → K' a w')
    (ha : o.askedIn F P a C) (hh : o.quietIn F n P a C K) : o.wpIn F n P a w K' Q' := by
  obtain ⟨v, h1, h2⟩ := hh
  have h3 := h1 w hw
  unfold Oper.quietAtIn at h3
  unfold Oper.wpIn
  refine ⟨ha w hw, ?_⟩
  rw [Oper.semAt_plain F _ _ hd]
  generalize (execOp a.eval o).run P w = r at *
  cases r with
  | ok x w' =>
    cases x <;> simp only [Oper.quietUponIn] at h3 <;> simp only [Oper.uponIn]
    case value u =>
      obtain ⟨e1, e2⟩ := h3
      rw [e1, e2]
      exact h _ _ hw h2
    case skip =>
      obtain ⟨e1, e2⟩ := h3
      rw [e1, ← e2]
      exact h _ _ hw h2
    case enter f args =>
      obtain ⟨e1, hd, hc⟩ := h3
      rw [e1]
      exact ⟨hd, hc.mono fun e w'' ⟨he, hw''⟩ => by subst he; exact h _ _ hw'' h2⟩
  | halt x w' => simp only [Oper.quietUponIn] at h3
theorem wpOpIn_of_qOpIn_round {i : Nat} {a : Act} {K : Act → Prop} {K' : Act → World → Prop} {Q' : Exit → Act → World → Prop} {w : World} (hd : ∀ (j : Nat) (o : Oper), ops[j]? = some o → ∀ c, o.op ≠ .defer c) (hC : C w) (h : ∀ a w', C w' → K a → K' a w')
    (hh : qOpIn F n P ops C i K a) : wpOpIn F n P ops Q' i K' a w := by
  unfold qOpIn at hh
  unfold wpOpIn
  split
  · rename_i ho; simp only [ho] at hh; exact h _ _ hC hh
  · rename_i o ho
    simp only [ho] at hh
    obtain ⟨ha, hh⟩ := hh
    split
    · rename_i hw; simp only [hw, if_true] at hh; exact Oper.wpIn_of_quiet_round (hd i o ho) hC h ha hh
    · rename_i hw; simp only [hw] at hh; exact ⟨ha w hC, h _ _ hC hh⟩
theorem wpAnyIn_of_quiet_round {md : Region.Mode} {Q : Act → Prop} {Q' : Exit → Act → World → Prop} (hd : ∀ (j : Nat) (o : Oper), ops[j]? = some o → ∀ c, o.op ≠ .defer c) (hQ : ∀ a w, C w → Q a → Q' .normal a w) : ∀ (fuel : Nat) (listed : Array Bool) (a : Act) (w : World), C w →
    wpAnyQIn F n P md ops C Q fuel listed a → wpAnyIn F n P md ops Q' fuel listed a w
  | 0, _, _, _, hw, h => ⟨h.1, hQ _ _ hw h.2⟩
  | fuel + 1, _, _, _, hw, h => ⟨fun h0 => hQ _ _ hw (h.1 h0), fun i hi => wpOpIn_of_qOpIn_round hd hw (fun a' w' hw' => wpAnyIn_of_quiet_round hd hQ fuel _ a' w' hw') (h.2 i hi)⟩
theorem wpIn_region_quiet_round {id : Nat} {Q : Exit → Act → World → Prop} {a : Act} {w : World} {l : List Oper} (hd : ∀ o ∈ l, ∀ c, o.op ≠ .defer c) (hm : P.follows .mixedOrders = true) (hB : Region.lexB .any l.toArray = true)
    (h : wpQuietIn F n P l.toArray (fun w' => ∃ n, w' = w.drewN n) (fun a' => ∀ w', (∃ n, w' = w.drewN n) → Q .normal a' w') l a) : (Code.region id l.toArray true).wpIn F n P Q a w := by
  have hB' := hB
  simp only [Region.lexB, Bool.and_eq_true] at hB'
  have hd' : ∀ (j : Nat) (o : Oper), l.toArray[j]? = some o → ∀ c, o.op ≠ .defer c := fun j o hj => hd o (by simpa using Array.mem_of_getElem? hj)
  refine wpIn_region_any hm (wpAnyIn_of_quiet_round (C := fun w' => ∃ n, w' = w.drewN n) (Q := fun a' => ∀ w', (∃ n, w' = w.drewN n) → Q .normal a' w') hd' (fun _ w' hw' h => h w' hw') _ _ _ _ ⟨1, rfl⟩ ?_)
  have := wpAnyQIn_lex (F := F) (n := n) (C := fun w' => ∃ n, w' = w.drewN n) (md := .any) hB'.1 l.toArray.toList 0 (Array.replicate l.toArray.size false) a (by simp) (by simpa using hB'.2) (by simpa using h)
  simpa using this
end
end Go
end
