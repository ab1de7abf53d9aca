/- Post5, Post6, QuietRound, Post7, Post8, NumPlain, Once1, Flat, PostAct, Pn2. -/
import Derived.Test.YtifapcpcemigdaaGreatM11e09df
import Derived.Maps.OwnOps
import Derived.Carry
import Derived.RangeFuncBox
import Derived.RangeFuncNested
import Derived.RangeFuncBound
import Derived.RangeFuncCalls
import Derived.RangeFuncLeaves
import Derived.Shelf.Abstract
import Derived.Shelf.RegionOpen
import Derived.WalkKit
import Derived.OwnWalkIn
import Derived.TacticsInMore
import Derived.LoopNIn
import Derived.LoopIn
import Derived.Sort.BigQuietIn
import Derived.RangeFuncFrom
import Derived.RangeFuncWrites
import Derived.Test.YtifapcpcemigdaaGreatMb4bbac2
import Derived.Deep.QuietTactic
import Derived.BigQuiet
import Derived.Test.YtifapcpcemigdaaGreatM03a5973
import Derived.WideShapes
import Derived.Lib.SmallJoins
import Derived.Test.YtifapcpcemigdaaGreatM6bd0a0d
set_option maxRecDepth 100000
set_option linter.unusedVariables false
set_option linter.unusedSimpArgs false
set_option linter.unusedSectionVars false
section
namespace Go.Proofs.YtifapcpcemigdaaGreat
open Go.RowKit Go.Lib Go.Tk Go.Shelf Go.Maps
def csK (P : PostV) (k : Nat) : List Nat := (List.range k).filter fun c => P.other c
theorem csK_succ (P : PostV) (k : Nat) : csK P (k + 1) = csK P k ++ (if P.other k = true then [k] else []) := by
  unfold csK
  rw [List.range_succ, List.filter_append]
  congr 1
  by_cases h : P.other k = true
  · rw [if_pos h, List.filter_cons_of_pos (by simpa using h), List.filter_nil]
  · rw [if_neg h, List.filter_cons_of_neg (by simpa using h), List.filter_nil]
theorem putL_fresh {L : List (Int × Value)} {x : Int} {v : Value} (h : ∀ p ∈ L, p.1 ≠ x) : (putL L x v).Perm (L ++ [(x, v)]) := by
  unfold putL
  rw [List.filter_eq_self.2 (fun p hp => by simpa using h p hp)]
  exact List.perm_append_comm (l₁ := [(x, v)])
def bl (bx : Nat → Nat) (l : List Nat) : List (Int × Value) := l.map fun (c : Nat) => ((c : Int), .pointer (some ⟨bx c, 0, none⟩))
structure NewAt (w wx : World) (sf n : Int) (bx : Nat → Nat) (k : Nat) : Prop where
  head : Box wx (w.heap.size + 1) #[.int .u8 sf, .int .i64 n, .map (some w.heap.size)]
  map : MapAt u8K wx w.heap.size (bl bx (csK (newP sf n) k))
  box : ∀ c : Nat, c < k → (newP sf n).other c = true → Box wx (bx c) #[.slice none 0 0, .int .u64 0, .int .u64 0]
  lo : ∀ c : Nat, c < k → (newP sf n).other c = true → w.heap.size + 2 ≤ bx c
  inj : ∀ c d : Nat, c < k → d < k → (newP sf n).other c = true → (newP sf n).other d = true → c ≠ d → bx c ≠ bx d
  b : Below w.heap.size w wx
theorem NewAt.skip {w wx : World} {sf n : Int} {bx : Nat → Nat} {k : Nat} (h : NewAt w wx sf n bx k) (hk : (newP sf n).other k = false) : NewAt w wx sf n bx (k + 1) := by
  have hlt : ∀ c : Nat, c < k + 1 → (newP sf n).other c = true → c < k := fun c hc ho => by
    rcases Nat.lt_succ_iff_lt_or_eq.1 hc with h | rfl
    · exact h
    · rw [hk] at ho; cases ho
  refine ⟨h.head, ?_, fun c hc ho => h.box c (hlt c hc ho) ho, fun c hc ho => h.lo c (hlt c hc ho) ho, fun c d hc hd ho hp => h.inj c d (hlt c hc ho) (hlt d hd hp) ho hp, h.b⟩
  rw [csK_succ, if_neg (by rw [hk]; decide), List.append_nil]
  exact h.map
theorem NewAt.more {w wx w' : World} {sf n : Int} {bx : Nat → Nat} {k : Nat} (h : NewAt w wx sf n bx k) (hk : (newP sf n).other k = true) (E : TypeId)
    (hm : MapAt u8K w' w.heap.size (putL (bl bx (csK (newP sf n) k)) (k : Int) (.pointer (some ⟨wx.heap.size, 0, none⟩)))) (hg : (wx.alloc (.cells #[.slice none 0 0, .int .u64 0, .int .u64 0] E)).grownBy w' (some w.heap.size)) :
    NewAt w w' sf n (fun c => if c = k then wx.heap.size else bx c) (k + 1) := by
  have hs := h.b.size
  have hh := h.head.lt
  have keep : ∀ {b : Nat} {vs : Array Value}, Box wx b vs → w.heap.size + 1 ≤ b → Box w' b vs := fun hb hle => (hb.kept (below_alloc _ _)).grown hg (fun e => by have := Option.some.inj e; omega)
  refine ⟨keep h.head (Nat.le_refl _), ?_, ?_, ?_, ?_, (h.b.alloc h.b.size _).grown hg (by simp; omega) (fun g e => by cases e; exact Nat.le_refl _)⟩
  · refine hm.perm ((putL_fresh ?_).trans ?_)
    · intro p hp
      obtain ⟨c, hc, rfl⟩ := List.mem_map.1 hp
      have : c < k := List.mem_range.1 (List.mem_filter.1 hc).1
      show (c : Int) ≠ k
      omega
    · rw [csK_succ, if_pos hk]
      refine List.Perm.of_eq ?_
      unfold bl
      rw [List.map_append]
      congr 1
      · refine List.map_congr_left fun c hc => ?_
        have : c < k := List.mem_range.1 (List.mem_filter.1 hc).1
        show _ = ((c : Int), Value.pointer (some ⟨if c = k then wx.heap.size else bx c, 0, none⟩))
        rw [if_neg (by omega)]
      · simp
  · intro c hc ho
    by_cases hck : c = k
    · subst hck
      rw [if_pos rfl]
      exact (Box.new rfl).grown hg (fun e => by have := Option.some.inj e; omega)
    · rw [if_neg hck]
      have hlo := h.lo c (by omega) ho
      exact keep (h.box c (by omega) ho) (by omega)
  · intro c hc ho
    by_cases hck : c = k
    · rw [if_pos hck]; omega
    · rw [if_neg hck]; exact h.lo c (by omega) ho
  · intro c d hc hd ho hp hne
    by_cases hck : c = k
    · rw [if_pos hck, if_neg (by omega)]
      have := (h.box d (by omega) hp).lt
      omega
    · rw [if_neg hck]
      by_cases hdk : d = k
      · rw [if_pos hdk]
        have := (h.box c (by omega) ho).lt
        omega
      · rw [if_neg hdk]
        exact h.inj c d (by omega) (by omega) ho hp hne
theorem NewAt.post {w wx : World} {sf n : Int} {bx : Nat → Nat} (h : NewAt w wx sf n bx n.toNat) (_hn : 0 ≤ n) : PostIn wx w.heap.size ⟨w.heap.size + 1, w.heap.size, bx, fun _ => .slice none 0 0⟩ (newP sf n) := by
  have hlt : ∀ c : Nat, (newP sf n).other c = true → c < n.toNat := fun c ho => by
    unfold PostV.other at ho
    simp only [Bool.and_eq_true, decide_eq_true_eq] at ho
    have : (c : Int) < n := ho.1.2
    omega
  have noown : ∀ {g : Nat}, (Value.slice none 0 0).ownBlock ≠ some g := fun e => by cases e
  have foot : ∀ {b k : Nat}, boxFoot b (Value.slice none 0 0) k → k = b := fun hk => by
    rcases hk with h | h
    · exact h
    · exact absurd h noown
  refine ⟨h.head, h.map, fun c ho => ⟨h.box c (hlt c ho) ho, World.ownsRow_nil _ _ _ _, fun g e => absurd e noown, by have := h.lo c (hlt c ho) ho; show w.heap.size ≤ bx c; omega⟩, by show w.heap.size ≤ w.heap.size + 1; omega, Nat.le_refl _, by show w.heap.size + 1 ≠ w.heap.size; omega, ?_, ?_⟩
  · intro c ho k hk
    have := foot hk
    have := h.lo c (hlt c ho) ho
    show k ≠ w.heap.size + 1 ∧ k ≠ w.heap.size
    simp only at *
    omega
  · intro c d ho hp hne k hk hk2
    have e1 := foot hk
    have e2 := foot hk2
    exact h.inj c d (hlt c ho) (hlt d hp) ho hp hne (e1.symm.trans e2)
set_option maxRecDepth 100000 in
set_option maxHeartbeats 4000000 in
theorem new_yes (self n : Int) (w : World) (h0 : 0 ≤ self) (h1 : self ≤ 255) (hn : newE self n = 0) :
    Calls Tryz.prog 24 #[.int .u8 self, .int .i64 n] w fun e w' => ∃ A, e = .returned (.tuple #[.pointer (some ⟨A.pb, 0, none⟩), .int .i64 0]) ∧ PostIn w' w.heap.size A (newP self n) ∧ Below w.heap.size w w' := by
  have hb : 2 ≤ n ∧ n ≤ 8 ∧ self < n := by
    unfold newE at hn
    by_cases h : n < 2 ∨ 8 < n ∨ n ≤ self
    · rw [if_pos h] at hn; cases hn
    · omega
  obtain ⟨n0, n1, s1⟩ := hb
  clear hn
  have hw8 : IntKind.u8.wrap n = n := by rw [IntKind.wrap_u8]; omega
  have hmm : ∀ w, (Instr.makeMap 121 none).run Tryz.prog w = .ok (.map (some w.heap.size)) (w.alloc (.map #[] 0)) := fun w => run_makeMap _ w
  go_enter Tryz.func24, Tryz.ntmps24
  go_wp2
  go_loopw [27] (fun i wr => ∃ (k : Nat) (bx : Nat → Nat), (k : Int) ≤ n ∧ i = .int .u8 k ∧ Aside (NewAt w wr self n bx k)) (fun i _ => n.toNat - (RowKit.intOf i).toNat)
  case atStart =>
    refine ⟨0, fun _ => 0, by omega, rfl, ⟨?_, ?_, fun c hc => absurd hc (by omega), fun c hc => absurd hc (by omega), fun c d hc => absurd hc (by omega), ?_⟩⟩
    · exact Box.new (by simp)
    · exact (MapAt.made u8K w).kept (below_alloc _ _)
    · exact bt (below_alloc _ _) (below_alloc _ _)
  case round =>
    obtain ⟨k, bx, hk, rfl, S⟩ := hrel
    by_cases hlt : (k : Int) < n
    · have hd := S.out.head
      have c2 : wr.cell? ⟨w.heap.size + 1, 2, none⟩ = some (.map (some w.heap.size)) := hd.cell 2 rfl
      have lh := hd.lt
      have HM := hid S.out.map
      clear hd
      have hwk : IntKind.u8.wrap ((k : Int) + 1) = k + 1 := by rw [IntKind.wrap_u8]; omega
      by_cases hs : (k : Int) = self
      · have q : ((k : Int) != self) = false := by rw [hs]; simp
        have ho := hid (show (newP self n).other k = false by simp [PostV.other, newP, hs])
        go_wp2
        go_roundw
        case measure => simp [RowKit.intOf]; omega
        case rel => exact ⟨k + 1, bx, by omega, by first | rfl | go_num, S.out.skip ho.out⟩
      · have q : ((k : Int) != self) = true := by rw [bne_iff_ne]; exact hs
        have ho := hid (show (newP self n).other k = true by simp [PostV.other, newP, hs, hlt])
        have HWK := hid (show (Lit.int .u8 (k : Int)).wf = true by simp [Lit.wf, IntKind.min, IntKind.max, IntKind.signed, IntKind.bits]; omega)
        go_wp2_with (at_mapUpdate; refine wpList_mapUpdate_map (K := u8K) rfl _ _ _ 121 rfl Tryz.underlying121 rfl (HM.out.kept (below_alloc _ _)) (k : Int) HWK.out rfl _ rfl ?_; intro w4 hm4 hg4)
        have S4 := hid (S.out.more ho.out _ hm4 hg4)
        clear hm4 hg4 S HM
        go_roundw
        case measure => simp [RowKit.intOf]; omega
        case rel => exact ⟨k + 1, _, by omega, by first | rfl | go_num, S4.out⟩
    · obtain rfl : n = (k : Int) := by omega
      have F := hid (S.out.post (by omega))
      have B := hid S.out.b
      clear S
      go_wp2
      go_ret2
      exact ⟨_, rfl, F.out, B.out⟩
end Go.Proofs.YtifapcpcemigdaaGreat
end
section
namespace Go.Proofs.YtifapcpcemigdaaGreat
open Go.RowKit Go.Lib Go.Tk Go.Shelf Go.Maps
attribute [local go_sem] Oper.semAt_some
abbrev Car (P : PostV) := { c : Nat // P.other c = true }
def carK (P : PostV) (k : Nat) : List (Car P) := (List.range k).filterMap fun (c : Nat) => if h : P.other (c : Int) = true then some ⟨c, h⟩ else none
theorem carK_yes {P : PostV} {k : Nat} (h : P.other k = true) : carK P (k + 1) = carK P k ++ [⟨k, h⟩] := by
  unfold carK
  rw [List.range_succ, List.filterMap_append]
  simp [h]
theorem carK_no {P : PostV} {k : Nat} (h : P.other k = false) : carK P (k + 1) = carK P k := by
  unfold carK
  rw [List.range_succ, List.filterMap_append]
  simp [h]
theorem carK_pre (P : PostV) {k : Nat} : ∀ j, carK P k <+: carK P (k + j)
  | 0 => List.prefix_refl _
  | j + 1 => by
    have ih := carK_pre P (k := k) j
    cases h : P.other (k + j : Nat) with
    | true => rw [← Nat.add_assoc, carK_yes h]; exact ih.trans (List.prefix_append _ _)
    | false => rw [← Nat.add_assoc, carK_no h]; exact ih
abbrev encCar (A : PostA) {P : PostV} (x : Car P) : Array Value := #[.int .u8 (x.1 : Int), .pointer (some ⟨A.bx x.1, 0, none⟩)]
theorem PostIn.mapLook {w : World} {base : Nat} {A : PostA} {P : PostV} (h : PostIn w base A P) (c : Nat) (hc : c ≤ 255) :
    (Instr.lookup 121 (.map (some A.mb)) (.int .u8 (c : Int)) false).run Tryz.prog w = .ok (if P.other c then .pointer (some ⟨A.bx c, 0, none⟩) else .pointer none) w := by
  have hw : (Lit.int .u8 (c : Int)).wf = true := by simp [Lit.wf, IntKind.min, IntKind.max, IntKind.signed, IntKind.bits]; omega
  have := h.map.lookup (w := w) Tryz.underlying121 zeroPtr (x := (c : Int)) hw false
  rw [show u8K.kv (c : Int) = .int .u8 (c : Int) from rfl] at this
  rw [this, lk_box]
  simp only [Bool.false_eq_true, if_false]
  by_cases ho : P.other c = true
  · rw [if_pos ho, if_pos ho]; rfl
  · rw [if_neg ho, if_neg ho]; rfl
def KpB (n₀ B : Nat) (X Y : World) : Prop := Below n₀ X Y ∧ Y.heap[B]? = X.heap[B]?
theorem KpB.trans {n₀ B : Nat} {X Y Z : World} (h : KpB n₀ B X Y) (k : KpB n₀ B Y Z) : KpB n₀ B X Z := ⟨h.1.trans k.1, k.2.trans h.2⟩
end Go.Proofs.YtifapcpcemigdaaGreat
end
section
namespace Go
section
variable {F : Fence} {n : Nat} {P : Program} {ops : Array Oper} {C : World → Prop}
end
end Go
end
section
namespace Go.Proofs.YtifapcpcemigdaaGreat
open Go.RowKit Go.Lib Go.Tk Go.Shelf Go.Maps
attribute [local go_sem] Oper.semAt_some
attribute [-go_sem] loadCellsFrom
structure Pk where
  fr : Int
  dest : Int
  num : Int
  m : Msg
deriving DecidableEq, Inhabited
end Go.Proofs.YtifapcpcemigdaaGreat
end
section
namespace Go.Proofs.YtifapcpcemigdaaGreat
open Go.RowKit Go.Lib Go.Tk Go.Shelf Go.Maps
attribute [-go_sem] loadCellsFrom
structure PostAt (w : World) (S : Nat → Prop) (pb : Nat) (P : PostV) : Prop where
  ex : ∃ (base : Nat) (A : PostA), A.pb = pb ∧ base ≤ w.heap.size ∧ PostIn w base A P ∧ PostOk P ∧ ∀ k, postFoot A P k → S k
def since (S : Nat → Prop) (w : World) : Nat → Prop := fun k => S k ∨ w.heap.size ≤ k
theorem PostAt.fr {S T : Nat → Prop} {w w' : World} {pb : Nat} {P : PostV} (h : PostAt w S pb P) (f : Fr T w w') (hn : ∀ k, S k → ¬ T k) : PostAt w' S pb P := by
  obtain ⟨base, A, e, hb, hI, ok, hf⟩ := h.ex
  exact ⟨base, A, e, Nat.le_trans hb f.size, hI.fr f (fun k hk => hn k (hf k hk)), ok, hf⟩
theorem PostAt.kept {S : Nat → Prop} {w w' : World} {pb : Nat} {P : PostV} (h : PostAt w S pb P) (hb : Below w.heap.size w w') : PostAt w' S pb P := h.fr (fr_below (fun _ => False) hb) (fun _ _ f => f)
theorem PostAt.mono {S T : Nat → Prop} {w : World} {pb : Nat} {P : PostV} (h : PostAt w S pb P) (hs : ∀ k, S k → T k) : PostAt w T pb P := by
  obtain ⟨base, A, e, hb, hI, ok, hf⟩ := h.ex
  exact ⟨base, A, e, hb, hI, ok, fun k hk => hs k (hf k hk)⟩
def AtDid (w : World) (S : Nat → Prop) (pb : Nat) (r : Int × PostV) (e : Ending) (w' : World) : Prop := e = .returned (.int .i64 r.1) ∧ PostAt w' (since S w) pb r.2 ∧ Fr S w w'
theorem PostDid.at {w w' : World} {S : Nat → Prop} {base : Nat} {A : PostA} {P : PostV} {r : Int × PostV} {e : Ending} (h : PostDid w base A P r e w') (hb : base ≤ w.heap.size) (ok : PostOk r.2) (hf : ∀ k, postFoot A P k → S k) : AtDid w S A.pb r e w' := by
  obtain ⟨he, A', hI, hfoot, hpb, hfr⟩ := h
  exact ⟨he, ⟨base, A', hpb, Nat.le_trans hb hfr.size, hI, ok, fun k hk => (hfoot k hk).imp (hf k) id⟩, hfr.mono (fun b _ hk => hf b hk)⟩
theorem doP_ok {P : PostV} {f : BoxV → Int × BoxV} {c : Int} (ok : PostOk P) (h : ∀ X, BoxOk X → BoxOk (f X).2) : PostOk (doP f P c).2 := by
  unfold doP
  split
  · exact put_ok ok (h _ (ok.box _))
  · exact ok
theorem push_at (S : Nat → Prop) (pb : Nat) (P : PostV) (c : Int) (m : Msg) (w : World) (h : PostAt w S pb P) (h0 : 0 ≤ c) (h1 : c ≤ 255) (hg : P.other c = true → (P.box c.toNat).given < 4294967296) :
    Calls Tryz.prog 100 #[.pointer (some ⟨pb, 0, none⟩), .int .u8 c, msgAgg m] w (AtDid w S pb (doP (fun X => pushX X m) P c)) := by
  obtain ⟨base, A, rfl, hb, hI, ok, hf⟩ := h.ex
  refine (push_any base A P c m w hI ok h0 h1 hb).mono (fun e w' hd => hd.at hb ?_ hf)
  unfold doP
  split
  · rename_i ho; exact put_ok ok (pushX_ok (ok.box _) (hg ho))
  · exact ok
theorem ack_at (S : Nat → Prop) (pb : Nat) (P : PostV) (c k : Int) (w : World) (h : PostAt w S pb P) (h0 : 0 ≤ c) (h1 : c ≤ 255) (k0 : 0 ≤ k) (k1 : k ≤ 18446744073709551615) :
    Calls Tryz.prog 27 #[.pointer (some ⟨pb, 0, none⟩), .int .u8 c, .int .u64 k] w (AtDid w S pb (doP (fun X => ackX X k) P c)) := by
  obtain ⟨base, A, rfl, hb, hI, ok, hf⟩ := h.ex
  exact (ack_any base A P c k w hI ok h0 h1 k0 k1).mono (fun e w' hd => hd.at hb (doP_ok ok (fun _ h => ackX_ok h)) hf)
theorem took_at (S : Nat → Prop) (pb : Nat) (P : PostV) (c k : Int) (w : World) (h : PostAt w S pb P) (h0 : 0 ≤ c) (h1 : c ≤ 255) (k0 : 0 ≤ k) (k1 : k ≤ 18446744073709551615) :
    Calls Tryz.prog 55 #[.pointer (some ⟨pb, 0, none⟩), .int .u8 c, .int .u64 k] w (AtDid w S pb (doP (fun X => tookX X k) P c)) := by
  obtain ⟨base, A, rfl, hb, hI, ok, hf⟩ := h.ex
  exact (took_any base A P c k w hI ok h0 h1 k0 k1).mono (fun e w' hd => hd.at hb (doP_ok ok (fun _ h => tookX_ok h k0 k1)) hf)
theorem len_at (S : Nat → Prop) (pb : Nat) (P : PostV) (c : Int) (w : World) (h : PostAt w S pb P) (h0 : 0 ≤ c) (h1 : c ≤ 255) :
    Calls Tryz.prog 22 #[.pointer (some ⟨pb, 0, none⟩), .int .u8 c] w fun e w' => e = .returned (.int .i64 (lenP P c)) ∧ Below w.heap.size w w' := by
  obtain ⟨base, A, rfl, hb, hI, ok, hf⟩ := h.ex
  exact len_any base A P c w hI h0 h1
theorem newP_ok {self n : Int} (h0 : 0 ≤ self) (hn : newE self n = 0) : PostOk (newP self n) := by
  unfold newE at hn
  split at hn
  · cases hn
  · exact ⟨by show 2 ≤ n; omega, by show n ≤ 8; omega, h0, by show self < n; omega, fun _ => ⟨by simp [newP], by simp [newP], by simp [newP], by simp [newP], by simp [newP]⟩⟩
theorem new_at (self n : Int) (w : World) (h0 : 0 ≤ self) (h1 : self ≤ 255) (hn : newE self n = 0) :
    Calls Tryz.prog 24 #[.int .u8 self, .int .i64 n] w fun e w' => ∃ pb, e = .returned (.tuple #[.pointer (some ⟨pb, 0, none⟩), .int .i64 0]) ∧ PostAt w' (fun k => w.heap.size ≤ k) pb (newP self n) ∧ Below w.heap.size w w' :=
  (new_yes self n w h0 h1 hn).mono (fun _ _ ⟨A, he, hI, hb⟩ => ⟨A.pb, he, ⟨_, A, rfl, hb.size, hI, newP_ok h0 hn, fun _ hk => (hI.foot hk).1⟩, hb⟩)
def Mine (w0 w : World) (pb : Nat) (P : PostV) : Prop := PostAt w (fun k => w0.heap.size ≤ k) pb P ∧ Below w0.heap.size w0 w
theorem Mine.did {w0 w w' : World} {pb : Nat} {P : PostV} {r : Int × PostV} {e : Ending} (h : Mine w0 w pb P) (hd : AtDid w (fun k => w0.heap.size ≤ k) pb r e w') : e = .returned (.int .i64 r.1) ∧ Mine w0 w' pb r.2 := by
  obtain ⟨he, hp, hf⟩ := hd
  exact ⟨he, hp.mono (fun k hk => hk.elim id (fun h1 => Nat.le_trans h.2.size h1)), h.2.trans (hf.below (fun _ _ h => h) h.2.size)⟩
theorem Mine.kept {w0 w w' : World} {pb : Nat} {P : PostV} (h : Mine w0 w pb P) (hb : Below w.heap.size w w') : Mine w0 w' pb P := ⟨h.1.kept hb, h.2.trans (hb.mono h.2.size)⟩
theorem PostAt.now {S : Nat → Prop} {w : World} {pb : Nat} {P : PostV} (h : PostAt w S pb P) : PostAt w (fun k => S k ∧ k < w.heap.size) pb P := by
  obtain ⟨base, A, e, hb, hI, ok, hf⟩ := h.ex
  exact ⟨base, A, e, hb, hI, ok, fun k hk => ⟨hf k hk, (hI.foot hk).2⟩⟩
end Go.Proofs.YtifapcpcemigdaaGreat
end
section
namespace Go.Proofs.YtifapcpcemigdaaGreat
open Go.RowKit Go.Lib Go.Tk
def saidPut (S : Nat → List Msg) (c : Nat) (m : Msg) : Nat → List Msg := fun i => if i = c then S i ++ [m] else S i
structure NumOk (P : PostV) (S : Nat → List Msg) (k : Nat) : Prop where
  ok : PostOk P
  given : ∀ c : Nat, P.other c = true → (P.box c).given = (S c).length
  wait : ∀ c : Nat, P.other c = true → (P.box c).wait = (S c).drop ((S c).length - (P.box c).wait.length)
  no : ∀ c : Nat, P.other c = false → S c = []
  le : ∀ c, (S c).length ≤ k
theorem NumOk.step {P : PostV} {S : Nat → List Msg} {k : Nat} (h : NumOk P S k) : NumOk P S (k + 1) := ⟨h.ok, h.given, h.wait, h.no, fun c => Nat.le_succ_of_le (h.le c)⟩
theorem NumOk.did {P : PostV} {S : Nat → List Msg} {k : Nat} (h : NumOk P S k) (f : BoxV → Int × BoxV) (c : Int) (hc : 0 ≤ c) (hok : ∀ X, BoxOk X → BoxOk (f X).2) (hg : ∀ X, BoxOk X → (f X).2.given = X.given)
    (hw : ∀ X, BoxOk X → ∃ j, (f X).2.wait = X.wait.drop j) : NumOk (doP f P c).2 S (k + 1) := by
  obtain ⟨n, rfl⟩ : ∃ n : Nat, c = n := ⟨c.toNat, by omega⟩
  unfold doP
  by_cases ho : P.other n = true
  · rw [if_pos ho]
    have hB := h.ok.box n
    refine ⟨put_ok h.ok (hok _ hB), fun d hd => ?_, fun d hd => ?_, fun d hd => h.no d hd, fun d => Nat.le_succ_of_le (h.le d)⟩
    · have hd' : P.other d = true := hd
      show (if d = (n : Int).toNat then _ else _ : BoxV).given = _
      by_cases e : d = n
      · subst e; rw [if_pos (by simp)]; rw [Int.toNat_natCast, hg _ hB]; exact h.given d hd'
      · rw [if_neg (by simpa using e)]; exact h.given d hd'
    · have hd' : P.other d = true := hd
      have key : ∀ X : BoxV, (if d = (n : Int).toNat then X else P.box d) = (P.put (n : Int).toNat X).box d := fun _ => rfl
      by_cases e : d = n
      · subst e
        obtain ⟨j, hj⟩ := hw _ hB
        have hw0 := h.wait d hd'
        have : (P.put (d : Int).toNat (f (P.box (d : Int).toNat)).2).box d = (f (P.box d)).2 := by
          show (if d = (d : Int).toNat then _ else _) = _
          rw [if_pos (by simp), Int.toNat_natCast]
        rw [this, hj]
        have hle : (P.box d).wait.length ≤ (S d).length := by
          have := h.given d hd'; have := hB.le; omega
        rw [List.length_drop]
        conv => lhs; rw [hw0]
        rw [List.drop_drop]
        rcases Nat.lt_or_ge j (P.box d).wait.length with hl | hl
        · congr 1; omega
        · rw [List.drop_eq_nil_of_le (by omega), List.drop_eq_nil_of_le (by omega)]
      · have : (P.put (n : Int).toNat (f (P.box (n : Int).toNat)).2).box d = P.box d := by
          show (if d = (n : Int).toNat then _ else _) = _
          rw [if_neg (by simpa using e)]
        rw [this]; exact h.wait d hd'
  · rw [if_neg ho]; exact h.step
theorem push_yes {P : PostV} {c : Int} {m : Msg} (h : (doP (fun X => pushX X m) P c).1 = 0) : P.other c = true ∧ (P.box c.toNat).wait.length < 32 := by
  unfold doP pushX at h
  split at h
  · rename_i ho
    refine ⟨ho, ?_⟩
    rcases Nat.lt_or_ge (P.box c.toNat).wait.length 32 with h1 | h1
    · exact h1
    · dsimp only at h; rw [if_pos h1] at h; cases h
  · cases h
theorem NumOk.push {P : PostV} {S : Nat → List Msg} {k : Nat} (h : NumOk P S k) (c : Int) (m : Msg) (hk : k < 4294967296) (h1 : (doP (fun X => pushX X m) P c).1 = 0) : NumOk (doP (fun X => pushX X m) P c).2 (saidPut S c.toNat m) (k + 1) := by
  obtain ⟨ho, hl⟩ := push_yes h1
  have hc : 0 ≤ c := by
    simp only [PostV.other, Bool.and_eq_true, decide_eq_true_eq] at ho
    exact ho.1.1
  obtain ⟨n, rfl⟩ : ∃ n : Nat, c = n := ⟨c.toNat, by omega⟩
  rw [Int.toNat_natCast] at hl ⊢
  have e2 : (doP (fun X => pushX X m) P n).2 = P.put n ⟨(P.box n).wait ++ [m], (P.box n).given + 1, (P.box n).last⟩ := by
    unfold doP pushX
    rw [if_pos ho]
    dsimp only
    rw [Int.toNat_natCast, if_neg (by omega)]
  have hB := h.ok.box n
  have hg := h.given n ho
  have hw := h.wait n ho
  have hk2 := h.le n
  have hle : (P.box n).wait.length ≤ (S n).length := by have := hB.le; omega
  rw [e2]
  have hb : ∀ d, (P.put n ⟨(P.box n).wait ++ [m], (P.box n).given + 1, (P.box n).last⟩).box d = if d = n then ⟨(P.box n).wait ++ [m], (P.box n).given + 1, (P.box n).last⟩ else P.box d := fun _ => rfl
  have hs : ∀ d, saidPut S n m d = if d = n then S d ++ [m] else S d := fun _ => rfl
  refine ⟨put_ok h.ok ⟨by simp; omega, by simp; omega, by show _ + 1 ≤ _; omega, hB.l0, hB.l1⟩, fun d hd => ?_, fun d hd => ?_, fun d hd => ?_, fun d => ?_⟩
  · have hd' : P.other d = true := hd
    rw [hb, hs]
    by_cases e : d = n
    · subst e; rw [if_pos rfl, if_pos rfl]; simp; omega
    · rw [if_neg e, if_neg e]; exact h.given d hd'
  · have hd' : P.other d = true := hd
    rw [hb, hs]
    by_cases e : d = n
    · subst e
      rw [if_pos rfl, if_pos rfl]
      simp only [List.length_append, List.length_cons, List.length_nil]
      rw [show (S d).length + (0 + 1) - ((P.box d).wait.length + (0 + 1)) = (S d).length - (P.box d).wait.length from by omega]
      rw [List.drop_append_of_le_length (by omega), ← hw]
    · rw [if_neg e, if_neg e]; exact h.wait d hd'
  · have hd' : P.other d = false := hd
    rw [hs]
    by_cases e : d = n
    · subst e; rw [ho] at hd'; cases hd'
    · rw [if_neg e]; exact h.no d hd'
  · rw [hs]
    have := h.le d
    split
    · simp; omega
    · omega
end Go.Proofs.YtifapcpcemigdaaGreat
end
section
namespace Go.Proofs.YtifapcpcemigdaaGreat
open Go.RowKit Go.Lib Go.Tk
structure OnceOk (PA PB : PostV) (pu : List Msg) (nt : Nat) (way : List Pk) (acks : List Int) (k : Nat) : Prop where
  okA : PostOk PA
  okB : PostOk PB
  a0 : PA.self = 0
  a1 : PA.n = 2
  b0 : PB.self = 1
  b1 : PB.n = 2
  given : (PA.box 1).given = pu.length
  wait : (PA.box 1).wait = pu.drop (pu.length - (PA.box 1).wait.length)
  wl : (PA.box 1).wait.length ≤ pu.length
  last : (PB.box 0).last = nt
  tk : nt ≤ pu.length
  dn : pu.length ≤ nt + (PA.box 1).wait.length
  wayOk : ∀ p ∈ way, 1 ≤ p.num ∧ p.num ≤ pu.length ∧ pu[p.num.toNat - 1]? = some p.m
  acksOk : ∀ x ∈ acks, 0 ≤ x ∧ x ≤ nt
  lp : pu.length ≤ k
  lw : way.length ≤ k
  la : acks.length ≤ k
theorem OnceOk.oA {PA PB : PostV} {pu : List Msg} {nt : Nat} {way : List Pk} {acks : List Int} {k : Nat} (h : OnceOk PA PB pu nt way acks k) : PA.other 1 = true := by
  simp [PostV.other, h.a0, h.a1]
theorem doP_at {f : BoxV → Int × BoxV} {P : PostV} {c : Nat} (h : P.other (c : Int) = true) : doP f P c = ((f (P.box c)).1, P.put c (f (P.box c)).2) := by
  unfold doP; rw [if_pos h, Int.toNat_natCast]
theorem doP_1 {f : BoxV → Int × BoxV} {P : PostV} (h : P.other 1 = true) : doP f P 1 = ((f (P.box 1)).1, P.put 1 (f (P.box 1)).2) := doP_at (c := 1) h
theorem put_box {P : PostV} {c : Nat} {X : BoxV} : (P.put c X).box c = X := if_pos rfl
theorem OnceOk.step {PA PB : PostV} {pu : List Msg} {nt : Nat} {way : List Pk} {acks : List Int} {k : Nat} (h : OnceOk PA PB pu nt way acks k) : OnceOk PA PB pu nt way acks (k + 1) :=
  { h with lp := Nat.le_succ_of_le h.lp, lw := Nat.le_succ_of_le h.lw, la := Nat.le_succ_of_le h.la }
theorem OnceOk.push {PA PB : PostV} {pu : List Msg} {nt : Nat} {way : List Pk} {acks : List Int} {k : Nat} (h : OnceOk PA PB pu nt way acks k) (m : Msg) (hk : k < 4294967296) (hz : (doP (fun X => pushX X m) PA 1).1 = 0) :
    OnceOk (doP (fun X => pushX X m) PA 1).2 PB (pu ++ [m]) nt way acks (k + 1) := by
  obtain ⟨-, hl⟩ := push_yes hz
  have hl : (PA.box 1).wait.length < 32 := hl
  have e : doP (fun X => pushX X m) PA 1 = (0, PA.put 1 ⟨(PA.box 1).wait ++ [m], (PA.box 1).given + 1, (PA.box 1).last⟩) := by
    rw [doP_1 h.oA]
    unfold pushX
    rw [if_neg (by omega)]
  rw [e]
  have hB := h.okA.box 1
  have hg := h.given
  have hwl := h.wl
  have hlp := h.lp
  have bx : (PA.put 1 ⟨(PA.box 1).wait ++ [m], (PA.box 1).given + 1, (PA.box 1).last⟩).box 1 = ⟨(PA.box 1).wait ++ [m], (PA.box 1).given + 1, (PA.box 1).last⟩ := put_box
  refine ⟨put_ok h.okA ⟨by simp; omega, by simp; omega, by show _ + 1 ≤ _; omega, hB.l0, hB.l1⟩, h.okB, h.a0, h.a1, h.b0, h.b1, ?_, ?_, ?_, h.last, ?_, ?_, fun p hp => ?_, h.acksOk, ?_, Nat.le_succ_of_le h.lw, Nat.le_succ_of_le h.la⟩
  · show ((PA.put 1 _).box 1).given = _
    rw [bx]; simp; omega
  · show ((PA.put 1 _).box 1).wait = _
    rw [bx]
    simp only [List.length_append, List.length_cons, List.length_nil]
    rw [show pu.length + (0 + 1) - ((PA.box 1).wait.length + (0 + 1)) = pu.length - (PA.box 1).wait.length from by omega, List.drop_append_of_le_length (by omega), ← h.wait]
  · show ((PA.put 1 _).box 1).wait.length ≤ _
    rw [bx]; simp; omega
  · have := h.tk; simp; omega
  · show _ ≤ _ + ((PA.put 1 _).box 1).wait.length
    rw [bx]; have := h.dn; simp; omega
  · obtain ⟨h1, h2, h3⟩ := h.wayOk p hp
    refine ⟨h1, by simp; omega, ?_⟩
    rw [List.getElem?_append_left (by omega)]; exact h3
  · simp; omega
end Go.Proofs.YtifapcpcemigdaaGreat
end
section
namespace Go.Tk
open Go.RowKit Go.Lib Go.WideShapes
variable {H : Type} {enc : TypeId × Value → H} {P : Program} {w : World} {base : Nat} {spare : Nat → Bool} {held : Bool}
def flatF (P : Program) (rec : TypeId → Option (List TypeId)) (stop : Nat) : List Field → Nat → Option (List TypeId)
  | [], o => if o = stop then some [] else none
  | fd :: fs, o => if fd.offset = o then (rec fd.type).bind fun ks => (flatF P rec stop fs (o + P.cellsOf fd.type)).map fun r => ks ++ r else none
def flatT (P : Program) : Nat → TypeId → Option (List TypeId)
  | 0, _ => none
  | f + 1, t => match P.underlying t with
    | some (.struct fs) => flatF P (flatT P f) (P.cellsOf t) fs.toList 0
    | some (.array _ _) => none
    | some (.tuple _) => none
    | _ => if P.cellsOf t = 1 then some [t] else none
def FlatAs (enc : TypeId × Value → H) (P : Program) (w : World) (base : Nat) (spare : Nat → Bool) (held : Bool) : List TypeId → List Value → Prop
  | [], cs => cs = []
  | t :: ts, cs => ∃ v cs', cs = v :: cs' ∧ (∃ n y, DataW.trod enc P w base spare held n t [v] = some y) ∧ FlatAs enc P w base spare held ts cs'
theorem FlatAs.append : ∀ {ts us : List TypeId} {cs ds : List Value}, FlatAs enc P w base spare held ts cs → FlatAs enc P w base spare held us ds → FlatAs enc P w base spare held (ts ++ us) (cs ++ ds)
  | [], _, _, _, h, k => by cases h; exact k
  | _ :: _, _, _, _, ⟨v, cs', e, hv, h⟩, k => by subst e; exact ⟨v, _, rfl, hv, h.append k⟩
theorem flat_fields {rec : TypeId → Option (List TypeId)} {n : Nat} (cs : List Value)
    (ih : ∀ t ts, rec t = some ts → ∀ cs y, DataW.trod enc P w base spare held n t cs = some y → cs.length = P.cellsOf t → FlatAs enc P w base spare held ts cs) :
    ∀ (fs : List Field) (o : Nat) (ts : List TypeId), flatF P rec cs.length fs o = some ts → o ≤ cs.length →
      (∀ fd ∈ fs, ∃ y, DataW.trod enc P w base spare held n fd.type ((cs.drop fd.offset).take (P.cellsOf fd.type)) = some y ∧ fd.offset + P.cellsOf fd.type ≤ cs.length) → FlatAs enc P w base spare held ts (cs.drop o)
  | [], o, ts, h, ho, _ => by
    unfold flatF at h
    split at h
    · cases h; rename_i e; rw [e, List.drop_length]; rfl
    · cases h
  | fd :: fs, o, ts, h, ho, hf => by
    unfold flatF at h
    split at h
    case isFalse => cases h
    rename_i e
    cases hk : rec fd.type with
    | none => rw [hk] at h; cases h
    | some ks =>
      rw [hk] at h
      cases hr : flatF P rec cs.length fs (o + P.cellsOf fd.type) with
      | none => rw [hr] at h; cases h
      | some r =>
        rw [hr] at h
        cases h
        obtain ⟨y, hy, hle⟩ := hf fd List.mem_cons_self
        rw [e] at hy hle
        have h1 := ih fd.type ks hk _ y hy (by rw [List.length_take, List.length_drop]; omega)
        have h2 := flat_fields cs ih fs _ r hr hle (fun fd' hm => hf fd' (List.mem_cons_of_mem _ hm))
        have : cs.drop o = (cs.drop o).take (P.cellsOf fd.type) ++ cs.drop (o + P.cellsOf fd.type) := by
          rw [← List.drop_drop, List.take_append_drop]
        rw [this]
        exact h1.append h2
theorem flatF_room {rec : TypeId → Option (List TypeId)} {stop : Nat} : ∀ (fs : List Field) (o : Nat) (ts : List TypeId), flatF P rec stop fs o = some ts → o ≤ stop ∧ ∀ fd ∈ fs, fd.offset + P.cellsOf fd.type ≤ stop
  | [], o, ts, h => by
    unfold flatF at h
    split at h
    · rename_i e; exact ⟨by omega, by simp⟩
    · cases h
  | fd :: fs, o, ts, h => by
    unfold flatF at h
    split at h
    case isFalse => cases h
    rename_i e
    cases hk : rec fd.type with
    | none => rw [hk] at h; cases h
    | some ks =>
      rw [hk] at h
      cases hr : flatF P rec stop fs (o + P.cellsOf fd.type) with
      | none => rw [hr] at h; cases h
      | some r =>
        obtain ⟨h1, h2⟩ := flatF_room fs _ r hr
        refine ⟨by omega, fun f hf => ?_⟩
        rcases List.mem_cons.1 hf with rfl | hf
        · omega
        · exact h2 f hf
theorem flat_of : ∀ (f : Nat) (t : TypeId) (ts : List TypeId), flatT P f t = some ts → ∀ (n : Nat) (cs : List Value) y, DataW.trod enc P w base spare held n t cs = some y → cs.length = P.cellsOf t → FlatAs enc P w base spare held ts cs
  | 0, t, ts, h => by cases h
  | f + 1, t, ts, h => by
    intro n cs y hy hl
    unfold flatT at h
    split at h
    · rename_i fs hu
      obtain ⟨h1, m, h2⟩ := struct_fields hu hy
      obtain ⟨r1, r2⟩ := flatF_room fs.toList 0 ts h
      rw [← hl] at h r2
      have := flat_fields (n := m) cs (fun t' ts' ht cs' y' hy' hl' => flat_of f t' ts' ht m cs' y' hy' hl') fs.toList 0 ts h (Nat.zero_le _) (fun fd hm => by obtain ⟨y, hy⟩ := h2 fd hm; exact ⟨y, hy, r2 fd hm⟩)
      simpa using this
    · cases h
    · cases h
    · split at h
      · rename_i hc
        cases h
        rw [hc] at hl
        match cs, hl with
        | [v], _ => exact ⟨v, [], rfl, ⟨n, y, hy⟩, rfl⟩
      · cases h
end Go.Tk
end
section
namespace Go.Proofs.YtifapcpcemigdaaGreat
open Go.RowKit Go.Lib Go.Tk Go.WideShapes
variable {H : Type} {enc : TypeId × Value → H} {w : World} {base : Nat} {spare : Nat → Bool} {held : Bool}
end Go.Proofs.YtifapcpcemigdaaGreat
end
section
namespace Go.Proofs.YtifapcpcemigdaaGreat
open Go.RowKit Go.Lib Go.Tk Go.Shelf Go.Vc Go.Sx
abbrev PnF := Nat → Value → Chunk
theorem mem_did {c c' : Chunk} {R : List Chunk} {w : World} (h : Mem (c :: R) w) {Q : Ending → World → Prop} {f : Nat} {args : Array Value}
    (hc : ∀ S, c.at_ S w → (∀ k, S k → k < w.heap.size) → Calls Tryz.prog f args w fun e w' => Fr S w w' ∧ (∃ S', c'.at_ S' w' ∧ ∀ k, S' k → (S k ∨ w.heap.size ≤ k) ∧ k < w'.heap.size) ∧ Q e w') :
    Calls Tryz.prog f args w fun e w' => Q e w' ∧ Mem (c' :: R) w' := by
  obtain ⟨F, h⟩ := h
  refine (hc (F 0) (h.has 0 c rfl) (fun k hk => h.hi 0 k (Nat.zero_lt_succ _) hk)).mono fun e w' ⟨h1, h2, h3⟩ => ⟨h3, ?_⟩
  let c0 : Chunk := ⟨fun S _ => S = F 0, fun _ _ h => h⟩
  have hm : Mem (c0 :: R) w := ⟨F, ⟨fun i d hd => by
    cases i with
    | zero => cases hd; rfl
    | succ i => exact h.has (i + 1) d hd, fun i k hi hk => h.hi i k hi hk, fun i j k hi hj hij hk => h.apart i j k hi hj hij hk⟩⟩
  exact Mem.step hm 0 (c := c0) rfl fun S hS _ => by
    have hS : S = F 0 := hS
    subst hS; exact ⟨h1, h2⟩
def postC (pb : Nat) (P : PostV) : Chunk where
  at_ S w := PostAt w S pb P
  stable {S w w'} hk hi h := h.fr (T := fun k => ¬ S k) ⟨hk.os, hk.tape, hk.output, hk.size, fun b hb hn => hk.block b (Classical.byContradiction hn) hb⟩ (fun k hs hn => hn hs)
def postF (P : PostV) : Nat → Value → Chunk := fun pb _ => postC pb P
theorem post_rd {P : PostV} {f : Nat} {cs : List SV} {v : SV} (hv : ∀ ε ε' : Env, v.den ε = v.den ε')
    (h : ∀ (S : Nat → Prop) (pb : Nat) (w : World) (ε : Env), PostAt w S pb P → Calls Tryz.prog f (#[.pointer (some ⟨pb, 0, none⟩)] ++ (SV.dens ε cs).toArray) w fun e w' => e = .returned (v.den ε) ∧ Below w.heap.size w w') :
    CallOK Tryz.prog f (.ptr 0 0 0 :: cs) [((0, 0), .fam (postF P))] [] v [] := by
  intro ε R w hM
  have hM : Mem (postC (ε 0 0).1 P :: R) w := hM
  obtain ⟨F, hl⟩ := hM
  have := h (F 0) (ε 0 0).1 w ε (hl.has 0 _ rfl)
  have e1 : (SV.dens ε (.ptr 0 0 0 :: cs)).toArray = #[.pointer (some ⟨(ε 0 0).1, 0, none⟩)] ++ (SV.dens ε cs).toArray := by
    simp [SV.dens, SV.den]
  rw [e1]
  refine this.mono fun e w' ⟨h1, h2⟩ => ⟨ε 1, ?_, ?_⟩
  · rw [h1, eset_self]
  · rw [eset_self]; exact Mem.kept (cs := postC (ε 0 0).1 P :: R) ⟨F, hl⟩ h2
theorem post_wr {P : PostV} {f : Nat} {cs : List SV} {r : Int × PostV}
    (h : ∀ (S : Nat → Prop) (pb : Nat) (w : World) (ε : Env), PostAt w S pb P → Calls Tryz.prog f (#[.pointer (some ⟨pb, 0, none⟩)] ++ (SV.dens ε cs).toArray) w (AtDid w S pb r)) :
    CallOK Tryz.prog f (.ptr 0 0 0 :: cs) [] [((0, 0), .fam (postF P))] (.val (.int .i64 r.1)) [((0, 0), .fam (postF r.2))] := by
  intro ε R w hM
  have hM : Mem (postC (ε 0 0).1 P :: R) w := hM
  have e1 : (SV.dens ε (.ptr 0 0 0 :: cs)).toArray = #[.pointer (some ⟨(ε 0 0).1, 0, none⟩)] ++ (SV.dens ε cs).toArray := by
    simp [SV.dens, SV.den]
  rw [e1]
  refine (mem_did (c' := postC (ε 0 0).1 r.2) (Q := fun e _ => e = .returned (.int .i64 r.1)) hM fun S hS hlt => (h S (ε 0 0).1 w ε hS).mono fun e w' ⟨h1, h2, h3⟩ => ⟨h3, ⟨_, h2.now, fun k hk => hk⟩, h1⟩).mono fun e w' ⟨h1, h2⟩ => ⟨ε 1, h1, ?_⟩
  rw [eset_self]; exact h2
def msgS (m : Msg) : List SV := [.val (.int .u8 m.k), .val (.int .u8 m.tc), .val (.int .u64 m.tr), .val (.int .u8 m.ix), .val (.int .u8 m.lc), .val (.int .u16 m.lf), .val (.int .u32 m.lx), .val (.int .i64 m.v), .val (.int .u8 m.st), .val (.int .u32 m.nn), .val (.int .i64 m.amt), .val (.int .i64 m.cd)]
def u8S (c : Int) : SV := .val (.int .u8 c)
def u64S (c : Int) : SV := .val (.int .u64 c)
def PushF : Nat := 100
def AckF : Nat := 27
def TookF : Nat := 55
def LenF : Nat := 22
def PNewF : Nat := 24
theorem push_c (P : PostV) (c : Int) (m : Msg) (h0 : 0 ≤ c) (h1 : c ≤ 255) (hg : P.other c = true → (P.box c.toNat).given < 4294967296) :
    CallOK Tryz.prog PushF [.ptr 0 0 0, u8S c, .agg (msgS m)] [] [((0, 0), .fam (postF P))] (.val (.int .i64 (doP (fun X => pushX X m) P c).1)) [((0, 0), .fam (postF (doP (fun X => pushX X m) P c).2))] :=
  post_wr (cs := [u8S c, .agg (msgS m)]) fun S pb w ε h => push_at S pb P c m w h h0 h1 hg
theorem ack_c (P : PostV) (c k : Int) (h0 : 0 ≤ c) (h1 : c ≤ 255) (k0 : 0 ≤ k) (k1 : k ≤ 18446744073709551615) :
    CallOK Tryz.prog AckF [.ptr 0 0 0, u8S c, u64S k] [] [((0, 0), .fam (postF P))] (.val (.int .i64 (doP (fun X => ackX X k) P c).1)) [((0, 0), .fam (postF (doP (fun X => ackX X k) P c).2))] :=
  post_wr (cs := [u8S c, u64S k]) fun S pb w ε h => ack_at S pb P c k w h h0 h1 k0 k1
theorem took_c (P : PostV) (c k : Int) (h0 : 0 ≤ c) (h1 : c ≤ 255) (k0 : 0 ≤ k) (k1 : k ≤ 18446744073709551615) :
    CallOK Tryz.prog TookF [.ptr 0 0 0, u8S c, u64S k] [] [((0, 0), .fam (postF P))] (.val (.int .i64 (doP (fun X => tookX X k) P c).1)) [((0, 0), .fam (postF (doP (fun X => tookX X k) P c).2))] :=
  post_wr (cs := [u8S c, u64S k]) fun S pb w ε h => took_at S pb P c k w h h0 h1 k0 k1
theorem len_c (P : PostV) (c : Int) (h0 : 0 ≤ c) (h1 : c ≤ 255) : CallOK Tryz.prog LenF [.ptr 0 0 0, u8S c] [((0, 0), .fam (postF P))] [] (.val (.int .i64 (lenP P c))) [] :=
  post_rd (cs := [u8S c]) (fun _ _ => rfl) fun S pb w ε h => len_at S pb P c w h h0 h1
theorem new_cn (self n : Int) (h0 : 0 ≤ self) (h1 : self ≤ 255) (hn : newE self n = 0) : CallOK Tryz.prog PNewF [u8S self, .val (.int .i64 n)] [] [] (.tup [.ptr 1 0 0, .val (.int .i64 0)]) [((1, 0), .fam (postF (newP self n)))] := by
  intro ε R w hM
  refine (new_at self n w h0 h1 hn).mono fun e w' ⟨pb, h2, h3, h4⟩ => ⟨fun _ => (pb, undef), by rw [h2]; simp only [SV.den, SV.dens, eset_at], ?_⟩
  have hM : Mem R w := hM
  have hr : Mem (postC pb (newP self n) :: R) w' := hM.fresh h4 _ (c := postC pb (newP self n)) h3.now fun k hk => hk
  simp only [hden, List.map_cons, List.map_nil, List.cons_append, List.nil_append, SC.den, eset_at]
  exact hr
end Go.Proofs.YtifapcpcemigdaaGreat
end
